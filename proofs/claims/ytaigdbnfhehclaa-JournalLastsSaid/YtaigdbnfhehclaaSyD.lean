/-
  What is proved: what the symbolic operation tells is what the model's operation does, operation by operation; no program in sight. No condition.
-/
import Derived.Test.YtaigdbnfhehclaaSyA
import Derived.Laws.MakeOwn
import Derived.Laws.Externs
import Derived.KernelRfl
namespace Go.Proofs.Ytaigdbnfhehclaa
namespace Sx
open Go.RowKit

section
variable {P : Program} {σ : St} {ρ : Env} {ι : Lay} {a : Act} {w : World}

theorem eqGuard_int (o : BinOp) (t : TypeId) (x y : Operand) (k k' : IntKind) (m n : Int) : (eqGuard o t x y (.int k m) (.int k' n)).run P w = .ok () w := by
  unfold eqGuard; cases o <;> rfl
theorem eqGuard_bool (o : BinOp) (t : TypeId) (x y : Operand) (m n : Bool) : (eqGuard o t x y (.bool m) (.bool n)).run P w = .ok () w := by
  unfold eqGuard; cases o <;> rfl
theorem run_stop {α : Type} (h : Halt) : (Sem.halt h : Sem α).run P w = .halt h w := rfl
theorem intCmp_run (o : BinOp) (x y : Int) (h : isCmp o = true) : (Op.intCmp o x y).run P w = .ok (.bool (intCmp o x y)) w := by
  cases o <;> first | rfl | cases h
theorem binInt_run {o : BinOp} {t : TypeId} {k : IntKind} {x y : T} {e : E} {ns : List C} {k' : IntKind} (hb : isCmp o = true ∨ isShift o = true ∨ isArith o = true ∨ isDiv o = true) (h : binE P o t (.int k x) (.int k' y) = some (e, ns)) (hn : ∀ c ∈ ns, c.den ρ = true) :
    (binOp o t (.int k (x.den ρ)) (.int k' (y.den ρ))).run P w = .ok (e.val ρ ι) w := by
  unfold binE at h
  simp only at h
  split at h
  · rename_i hs
    cases h
    have h0 := hn _ (List.mem_singleton.2 rfl)
    rw [C.den_cmp'] at h0
    simp only [intCmp, T.den, ge_iff_le, decide_eq_true_eq] at h0
    have h1 : ¬ y.den ρ < 0 := by omega
    cases o <;> first | (simp only [binOp, Op.shift, h1, if_false, E.val, T.den_bin', intBin]; rfl) | cases hs
  · rename_i hs
    split at h
    · cases h
    · rename_i hk
      have hk' : k = k' := by simpa using hk
      subst hk'
      split at h
      · rename_i ha
        cases h
        cases o <;> first | (simp only [binOp, ne_eq, not_true_eq_false, if_false, Op.intArith, Op.intBits, E.val, T.den_bin', intBin]; rfl) | cases ha
      · rename_i ha
        split at h
        · rename_i hd
          cases h
          have h0 := hn _ (List.mem_singleton.2 rfl)
          rw [C.den_cmp'] at h0
          simp only [intCmp, T.den, bne_iff_ne, ne_eq] at h0
          cases o <;> first | (simp only [binOp, ne_eq, not_true_eq_false, if_false, Op.intDiv, h0, E.val, T.den_bin', intBin]; rfl) | cases hd
        · rename_i hd
          cases h
          have hc : isCmp o = true := by
            rcases hb with h | h | h | h
            · exact h
            · exact absurd h hs
            · exact absurd h ha
            · exact absurd h hd
          cases o <;> first | (simp only [binOp, ne_eq, not_true_eq_false, if_false, E.val, C.den_cmp']; exact intCmp_run _ _ _ rfl) | cases hc
theorem bin_all (o : BinOp) : isCmp o = true ∨ isShift o = true ∨ isArith o = true ∨ isDiv o = true := by cases o <;> simp [isCmp, isShift, isArith, isDiv]
theorem isBoolT_spec {t : TypeId} (h : isBoolT P t = true) : P.underlying t = some .bool := by
  unfold isBoolT at h; split at h <;> first | assumption | cases h
theorem equalIn_bool (d : Nat) {t : TypeId} (hu : P.underlying t = some .bool) (x y : Bool) : (Op.equalIn (d + 1) t (.bool x) (.bool y)).run P w = .ok (x == y) w := by
  simp only [Op.equalIn, Sem.run_bind, run_underlying hu, Result.andThen_ok, Sem.run_pure]
theorem equal_bool {t : TypeId} (hu : P.underlying t = some .bool) (x y : Bool) : (Op.equal t (.bool x) (.bool y)).run P w = .ok (x == y) w := by
  unfold Op.equal Op.maxDepth
  exact equalIn_bool 9999 hu x y
theorem eql_bool {t : TypeId} (hu : P.underlying t = some .bool) (x y : Bool) : (binOp .eql t (.bool x) (.bool y)).run P w = .ok (.bool (x == y)) w := by
  show ((do pure (.bool (← Op.equal t (.bool x) (.bool y)))) : Sem Value).run P w = _
  simp only [Sem.run_bind, equal_bool hu, Result.andThen_ok, Sem.run_pure]
theorem neq_bool {t : TypeId} (hu : P.underlying t = some .bool) (x y : Bool) : (binOp .neq t (.bool x) (.bool y)).run P w = .ok (.bool !(x == y)) w := by
  show ((do pure (.bool (!(← Op.equal t (.bool x) (.bool y))))) : Sem Value).run P w = _
  simp only [Sem.run_bind, equal_bool hu, Result.andThen_ok, Sem.run_pure]
theorem binE_run {o : BinOp} {t : TypeId} {x y e : E} {ns : List C} (ox oy : Operand) (h : binE P o t x y = some (e, ns)) (hn : ∀ c ∈ ns, c.den ρ = true) :
    ((do eqGuard o t ox oy (x.val ρ ι) (y.val ρ ι); binOp o t (x.val ρ ι) (y.val ρ ι)) : Sem Value).run P w = .ok (e.val ρ ι) w := by
  have h' := h
  unfold binE at h'
  split at h'
  · simp only [E.val, Sem.run_bind, eqGuard_int, Result.andThen_ok]
    exact binInt_run (bin_all o) h hn
  · split at h'
    · rename_i hb
      have hu := isBoolT_spec hb
      split at h'
      · cases h'
        simp only [E.val, Sem.run_bind, eqGuard_bool, Result.andThen_ok, eql_bool hu, C.den_iff']
      · cases h'
        simp only [E.val, Sem.run_bind, eqGuard_bool, Result.andThen_ok, neq_bool hu, C.den_not', C.den_iff']
      · cases h'
    · cases h'
  · cases h'
theorem minE_go (mn : Bool) : ∀ (l : List E) (k : IntKind) (x : T) (e : E), minE.go mn k x l = some e →
    ((E.vals ρ ι l).foldlM (if mn then Builtin.min2 else Builtin.max2) (.int k (x.den ρ))).run P w = .ok (e.val ρ ι) w
  | [], k, x, e, h => by unfold minE.go at h; cases h; rfl
  | c :: l, k, x, e, h => by
    unfold minE.go at h
    split at h
    · rename_i heq; cases heq
    · rename_i kk b ll heq
      cases heq
      have ih := minE_go mn l k _ e h
      simp only [E.vals, E.val, List.foldlM_cons, Sem.run_bind]
      have : ((if mn then Builtin.min2 else Builtin.max2) (.int k (x.den ρ)) (.int kk (b.den ρ))).run P w = .ok (.int k ((if mn then T.mn' x b else T.mx' x b).den ρ)) w := by
        cases mn
        · simp only [Bool.false_eq_true, if_false, Builtin.max2, T.den_mx', intMax]; rfl
        · simp only [if_true, Builtin.min2, T.den_mn', intMin]; rfl
      rw [this, Result.andThen_ok]
      exact ih
    · cases h
theorem goodFunc_run {f : FuncId} (h : goodFunc P f = true) (args : Array Value) : (callFunc f args).run P w = .ok (.enter f args) w := by
  unfold goodFunc at h
  split at h
  · rename_i fn hf
    simp only [bne_iff_ne, ne_eq, Bool.and_eq_true] at h
    obtain ⟨h1, h2⟩ := h
    have h3 : (fn.name == "runtime.NumGoroutine") = false := by simpa using h1
    have h4 : fn.body.isNone = false := by cases hb : fn.body <;> simp_all
    simp only [callFunc, Sem.run_bind, run_program, Result.andThen_ok, hf, h3, h4, Bool.false_eq_true, if_false, Sem.run_pure]
  · cases h

theorem store_run {t : TypeId} {n b o : Nat} {v : Value} (hs : sizeE P t = some n) (hn : v.cells.size = n) (h1 : ∀ u ∈ v.cells.toList, u.oneCell' = true)
    (hc : ∀ j, j < n → (w.cell? ⟨b, o + j, none⟩).isSome = true ∧ w.frozen? ⟨b, o + j, none⟩ = false) :
    (Instr.storeAt t (.pointer (some ⟨b, o, none⟩)) v).run P w = .ok () (w.setCells b o v.cells.toList) := by
  have h2 := run_storeCells_cells (P := P) b o v.cells.toList 0 w (fun j hj => by simpa using (hc j (by simpa [hn] using hj)).1) (fun j hj => by simpa using (hc j (by simpa [hn] using hj)).2) h1
  simp only [Nat.add_zero] at h2
  simp only [Instr.storeAt, Instr.sureAddr, Sem.run_bind, Sem.run_pure, Result.andThen_ok, storeVar, sizeE_run hs, hn, ne_eq, not_true_eq_false, if_false, h2]

theorem load_run (H : Held σ ρ ι a w) {t : TypeId} {b o : Nat} {l : List E} {e : E} (hl : σ.heap.get b = some l) (h : partE P t l o = some e) :
    (Instr.loadAt t (.pointer (some ⟨(ι b).1, (ι b).2 + o, none⟩))).run P w = .ok (e.val ρ ι) w := by
  unfold partE at h
  split at h
  · rename_i h1
    split at h
    · rename_i n h2
      split at h
      · rename_i hle
        cases h
        have hr : w.rangeAt (ι b).1 ((ι b).2 + o) (E.vals ρ ι ((l.drop o).take n)) := fun j v hv => by
          rw [E.vals_get] at hv
          simp only [List.getElem?_take, List.getElem?_drop] at hv
          split at hv
          · cases hq : l[o + j]? with
            | none => simp [hq] at hv
            | some c =>
              simp [hq] at hv
              subst hv
              have := (H.cell b l hl (o + j) c hq).1
              rwa [← Nat.add_assoc] at this
          · simp at hv
        have hrow : ∃ d, P.underlying t = some d ∧ d.isRow = true := by
          unfold isRowE at h1
          split at h1 <;> first | exact ⟨_, by assumption, rfl⟩ | cases h1
        obtain ⟨d, hu, hd⟩ := hrow
        have hsz : (P.info? t).map (·.size) = some (E.vals ρ ι ((l.drop o).take n)).length := by
          unfold sizeE at h2
          rw [h2, E.vals_length]
          simp; omega
        rw [run_loadAt_mid w _ _ t _ d hr hu hd hsz]
        rfl
      · cases h
    · cases h
  · rename_i h1
    have hc := (H.cell b l hl o e h).1
    simp only [Instr.loadAt, Instr.sureAddr, Sem.run_bind, Sem.run_pure, Result.andThen_ok, loadVar, isRowE_run h1, Bool.false_eq_true, if_false, load, Sem.run, hc]
  · cases h

theorem addr_add (b o n : Nat) : (⟨b, o, none⟩ : Addr).add n = ⟨b, o + n, none⟩ := by unfold Addr.add; split <;> simp_all

theorem opE_ok (H : Held σ ρ ι a w) {o : Oper} {d : Do} {ns : List C} (h : opE P σ o = some (d, ns)) (hn : ∀ c ∈ ns, c.den ρ = true) : d.does P σ ρ ι a w o := by
  obtain ⟨dst, op, ty, pos, after, guard⟩ := o
  unfold opE at h
  simp only at h
  split at h
  case h_1 x => -- move
    split at h
    · rename_i h1; cases h; simp only [Do.does, execOp, H.opnd h1, Sem.run_pure]
    · cases h
  case h_2 x => -- assign
    split at h
    · rename_i h1; cases h; simp only [Do.does, execOp, H.opnd h1, Sem.run_pure]
    · cases h
  case h_3 c x y => -- pick
    split at h
    · rename_i c e1 e2 h1 h2 h3
      have h4 := C.den_simp H.pc c
      split at h
      · rename_i hc; cases h
        have : c.den ρ = true := by rw [← h4, hc]; rfl
        simp only [Do.does, execOp, H.opnd h1, H.opnd h2, E.val, asBool, Sem.run_bind, Sem.run_pure, Result.andThen_ok, this, if_true]
      · rename_i hc; cases h
        have : c.den ρ = false := by rw [← h4, hc]; rfl
        simp only [Do.does, execOp, H.opnd h1, H.opnd h3, E.val, asBool, Sem.run_bind, Sem.run_pure, Result.andThen_ok, this, Bool.false_eq_true, if_false]
      · split at h
        · cases h
          simp only [Do.does, execOp, H.opnd h1, H.opnd h2, H.opnd h3, E.val, asBool, Sem.run_bind, Sem.run_pure, Result.andThen_ok, C.den_ite', h4]
          split <;> rfl
        · cases h
    · cases h
  case h_4 t => -- alloc
    split at h
    · rename_i z hz
      cases h
      obtain ⟨v, h1, h2⟩ := zeroE_run hz ρ ι w
      simp only [Do.does, execOp, Instr.alloc, Sem.run_bind, h1, Result.andThen_ok, newVar, newRow, newObj, Sem.run, Sem.run_pure, h2]
      rfl
    · cases h
  case h_5 t x => -- box
    split at h
    · rename_i e h1
      split at h
      · rename_i l h2
        cases h
        have h3 := E.cells_val (ρ := ρ) (ι := ι) h2
        simp only [Do.does, execOp, Instr.box, H.opnd h1, Sem.run_bind, Result.andThen_ok, newVar, newRow, newObj, Sem.run, Sem.run_pure, h3]
        rfl
      · cases h
    · cases h
  case h_6 t parts => -- build
    split at h
    · rename_i ps h1
      split at h
      · rename_i l h2
        cases h
        have h3 := H.parts h1
        have h4 : (parts.map fun (i, x) => (i, a.eval x)) = (ps.map fun p => (p.1, p.2.val ρ ι)).toArray := by
          rw [← h3, ← List.map_toArray, Array.toArray_toList]
        have h5 := buildE_run (ρ := ρ) (ι := ι) h2 w
        simp only [Do.does, execOp, Sem.run_bind, h4, h5, Result.andThen_ok, Sem.run_pure, E.val]
      · cases h
    · cases h
  case h_7 t x => -- load
    split at h
    · rename_i b o h1
      split at h
      · rename_i l h2
        split at h
        · rename_i e h3
          cases h
          have h4 := load_run H h2 h3
          simp only [Do.does, execOp, Sem.run_bind, H.opnd h1, E.val, h4, Result.andThen_ok, Sem.run_pure]
        · cases h
      · cases h
    · cases h
  case h_8 t x y => -- store
    split at h
    · rename_i b o e h1 h2
      split at h
      · rename_i l cs n h3 h4 h5
        split at h
        · rename_i h6
          obtain ⟨h7, h8, h9⟩ := h6
          cases h
          have h10 := E.cells_val (ρ := ρ) (ι := ι) h4
          have h11 := store_run (P := P) (w := w) (b := (ι b).1) (o := (ι b).2 + o) (v := e.val ρ ι) h5 (by rw [h10]; simp [E.vals_length, h7]) (by
            rw [h10]
            intro u hu
            simp only [E.vals_map, List.mem_map] at hu
            obtain ⟨c, hc, rfl⟩ := hu
            exact E.one_val (by simpa using List.all_eq_true.1 h9 c hc)) (fun j hj => by
              have hlt : o + j < l.length := by omega
              have := H.cell b l h3 (o + j) _ (List.getElem?_eq_getElem hlt)
              rw [← Nat.add_assoc] at this
              exact ⟨by rw [this.1]; rfl, this.2⟩)
          rw [h10] at h11
          refine ⟨?_, l, h3, by omega⟩
          simp only [execOp, Sem.run_bind, H.opnd h1, H.opnd h2, E.val, h11, Result.andThen_ok, Sem.run_pure]
        · cases h
      · cases h
    · cases h
  case h_9 x => -- nilCheck
    split at h
    · rename_i b o h1
      cases h
      simp only [Do.does, execOp, H.opnd h1, E.val, Sem.run_pure]
    · rename_i n k o h1
      cases h
      obtain ⟨b', o', e1⟩ := hatV_form (ι.h (n.den ρ).toNat).val
      simp only [Do.does, execOp, H.opnd h1, E.val, e1, Sem.run_pure]
    · cases h
  case h_10 bo t x y yt => -- binOp
    split at h
    · rename_i e1 e2 h1 h2
      split at h
      · rename_i e ns' h3
        cases h
        have h4 := binE_run (P := P) (w := w) (ρ := ρ) (ι := ι) x y h3 hn
        simp only [Do.does, execOp, H.opnd h1, H.opnd h2]
        rw [Sem.run_bind, h4]
        rfl
      · cases h
    · cases h
  case h_11 uo t x => -- unOp
    split at h
    · rename_i c h1
      cases h
      simp only [Do.does, execOp, H.opnd h1, E.val, Op.unary, Sem.run_bind, Sem.run_pure, Result.andThen_ok, C.den_not']
    · rename_i k x h1
      cases h
      simp only [Do.does, execOp, H.opnd h1, E.val, Op.unary, Op.intArith, Sem.run_bind, Sem.run_pure, Result.andThen_ok, T.den_bin', intBin, T.den]
    · cases h
  case h_12 s t x => -- convert
    split at h
    · rename_i sd k k' x h1 h2 h3
      cases h
      simp only [Do.does, execOp, H.opnd h3, E.val, convert, Sem.run_bind, run_underlying h1, run_underlying h2, Result.andThen_ok, T.den_wrap']
      cases sd <;> simp [Conv.intToInt]
    · cases h
  case h_13 s x f => -- fieldAddr
    split at h
    · rename_i b o fs h1 h2
      split at h
      · rename_i fd h3
        split at h
        · rename_i n h4
          split at h
          · cases h
          · rename_i h5
            cases h
            simp only [Do.does, execOp, H.opnd h1, E.val, Instr.fieldAt, Sem.run_bind, run_underlying h2, Result.andThen_ok, h3, Instr.sureAddr, Sem.run_pure, fieldPlace, sizeE_run h4, h5, if_false, addr_add, Nat.add_assoc]
        · cases h
      · cases h
    · rename_i m k o fs h1 h2
      split at h
      · rename_i fd h3
        split at h
        · rename_i n h4
          split at h
          · cases h
          · rename_i h5
            cases h
            obtain ⟨b', o', e1⟩ := hatV_form (ι.h (m.den ρ).toNat).val
            simp only [Do.does, execOp, H.opnd h1, E.val, e1, Instr.fieldAt, Sem.run_bind, run_underlying h2, Result.andThen_ok, h3, Instr.sureAddr, Sem.run_pure, fieldPlace, sizeE_run h4, h5, if_false, addr_add, Nat.add_assoc]
        · cases h
      · cases h
    · cases h
  case h_14 t x f => -- field
    split at h
    · rename_i l fs h1 h2
      split at h
      · rename_i fd h3
        split at h
        · rename_i e h4
          cases h
          simp only [Do.does, execOp, H.opnd h1, E.val, Instr.field, Sem.run_bind, run_underlying h2, Result.andThen_ok, h3, asAgg, Sem.run_pure, partE_run h4]
        · cases h
      · cases h
    · cases h
  case h_15 t x i => -- indexAddr
    split at h
    · rename_i b o k n len el h1 h2 h3
      split at h
      · rename_i s h4
        split at h
        · rename_i h5
          cases h
          simp only [Do.does, execOp, H.opnd h1, H.opnd h2, E.val, T.den, Instr.indexAt, asIntOf, Sem.run_bind, run_underlying h3, Result.andThen_ok, Instr.sureAddr, Sem.run_pure, h5, and_self, if_true, sizeE_run h4, addr_add, Nat.add_assoc]
        · cases h
      · cases h
    · rename_i m k o kk n len el h1 h2 h3
      split at h
      · rename_i s h4
        split at h
        · rename_i h5
          cases h
          obtain ⟨b', o', e1⟩ := hatV_form (ι.h (m.den ρ).toNat).val
          simp only [Do.does, execOp, H.opnd h1, H.opnd h2, E.val, e1, T.den, Instr.indexAt, asIntOf, Sem.run_bind, run_underlying h3, Result.andThen_ok, Instr.sureAddr, Sem.run_pure, h5, and_self, if_true, sizeE_run h4, addr_add, Nat.add_assoc]
        · cases h
      · cases h
    · cases h
  case h_16 t x i => -- index
    split at h
    · rename_i l k n len el h1 h2 h3
      split at h
      · rename_i s h4
        split at h
        · rename_i h5
          split at h
          · rename_i e h6
            cases h
            simp only [Do.does, execOp, H.opnd h1, H.opnd h2, E.val, T.den, Instr.index, asIntOf, Sem.run_bind, run_underlying h3, Result.andThen_ok, Sem.run_pure, h5, and_self, if_true, sizeE_run h4, partE_run h6]
          · cases h
        · cases h
      · cases h
    · cases h
  case h_17 x i => -- extract
    split at h
    · rename_i l h1
      split at h
      · rename_i e h2
        cases h
        have h3 : (E.vals ρ ι l).toArray[i]? = some (e.val ρ ι) := by simp [E.vals_get, h2]
        simp only [Do.does, execOp, H.opnd h1, E.val, Instr.extract, Sem.run_bind, h3, Sem.run_pure, Result.andThen_ok]
      · cases h
    · cases h
  case h_18 t x => -- makeInterface
    split at h
    · cases h
    · rename_i e d h0 h1 h3
      cases h
      have : (Instr.makeInterface t (e.val ρ ι)).run P w = .ok (.iface t (e.val ρ ι)) w := by
        unfold Instr.makeInterface
        rw [Sem.run_bind, run_underlying h3]
        cases d <;> first | rfl | exact (h0 _ rfl).elim
      simp only [Do.does, execOp, H.opnd h1, E.val, Sem.run_bind, this, Result.andThen_ok, Sem.run_pure]
    · cases h
  case h_19 fn first captured => -- makeFunc
    split at h
    · rename_i h0
      split at h
      · rename_i l h1
        cases h
        have h2 := H.opnds_arr h1
        have h3 : first = #[] := Array.eq_empty_of_size_eq_zero h0
        subst h3
        simp only [Do.does, execOp, h2, E.val, Instr.makeFunc, Sem.run_bind, Sem.run_pure, Result.andThen_ok, List.map_toArray, List.map_nil]
      · cases h
    · cases h
  case h_20 c => -- call
    obtain ⟨callee, cargs, ctys⟩ := c
    simp only at h
    split at h
    · rename_i f args h2
      split at h
      · rename_i fid l h3
        split at h
        · rename_i h4
          cases h
          have h5 := H.opnds_arr h2
          have h6 := H.opnd h3
          have h7 := goodFunc_run (w := w) h4 ((E.vals ρ ι args).toArray ++ (E.vals ρ ι l).toArray)
          simp only [Do.does, execOp, resolve, h5, h6, E.val, Deferred.ofValue, Sem.run_bind, Sem.run_pure, Result.andThen_ok, invoke, Array.empty_append]
          rw [h7]
          simp [E.vals_map]
        · cases h
      · cases h
    · rename_i args h2
      split at h
      · rename_i e h3
        cases h
        have h5 := H.opnds_arr h2
        cases args with
        | nil => cases h3
        | cons c l =>
          unfold minE at h3
          split at h3
          · cases h3
          · rename_i k x l' heq
            cases heq
            have h6 := minE_go (P := P) (w := w) (ρ := ρ) (ι := ι) true _ _ _ _ h3
            simp only [if_true] at h6
            simp only [Do.does, execOp, resolve, h5, Sem.run_bind, Sem.run_pure, Result.andThen_ok, invoke, builtin, Builtin.min_, E.vals, E.val, h6]
          · cases h3
      · cases h
    · rename_i args h2
      split at h
      · rename_i e h3
        cases h
        have h5 := H.opnds_arr h2
        cases args with
        | nil => cases h3
        | cons c l =>
          unfold minE at h3
          split at h3
          · cases h3
          · rename_i k x l' heq
            cases heq
            have h6 := minE_go (P := P) (w := w) (ρ := ρ) (ι := ι) false _ _ _ _ h3
            simp only [Bool.false_eq_true, if_false] at h6
            simp only [Do.does, execOp, resolve, h5, Sem.run_bind, Sem.run_pure, Result.andThen_ok, invoke, builtin, Builtin.max_, E.vals, E.val, h6]
          · cases h3
      · cases h
    · cases h
  case h_21 => cases h

theorem litsOf_at (H : Held σ ρ ι a w) : ∀ {l : List Operand} {vs : List (Operand × Value)}, litsOf σ l = some vs → ∀ p ∈ vs, a.eval p.1 = p.2
  | [], _, h, p, hp => by cases h; cases hp
  | x :: l, _, h, p, hp => by
    unfold litsOf at h
    split at h
    · rename_i v vs h1 h2
      cases h
      cases hp with
      | head =>
        unfold litOf at h1
        cases ho : σ.opnd x with
        | none => simp [ho] at h1
        | some e => simp [ho] at h1; rw [H.opnd ho]; exact E.litE_val h1
      | tail _ hp => exact litsOf_at H h2 p hp
    · cases h
theorem litsOf_mem : ∀ {l : List Operand} {vs : List (Operand × Value)}, litsOf σ l = some vs → ∀ x ∈ l, ∃ v, (x, v) ∈ vs
  | [], _, h, x, hx => by cases hx
  | y :: l, _, h, x, hx => by
    unfold litsOf at h
    split at h
    · rename_i v vs h1 h2
      cases h
      cases hx with
      | head => exact ⟨v, List.mem_cons_self ..⟩
      | tail _ hx => obtain ⟨u, hu⟩ := litsOf_mem h2 x hx; exact ⟨u, List.mem_cons_of_mem _ hu⟩
    · cases h
theorem sameOp_eval {x y : Operand} (h : sameOp x y = true) : a.eval x = a.eval y := by
  unfold sameOp at h
  split at h <;> first | (simp only [beq_iff_eq] at h; subst h; rfl) | cases h
theorem atList_eval (H : Held σ ρ ι a w) {l : List Operand} {vs : List (Operand × Value)} (h : litsOf σ l = some vs) {x : Operand} (hx : x ∈ l) : a.eval x = atList vs x := by
  have key : ∀ y : Operand, y ∈ l → (∀ v, y ≠ .const v) → a.eval y = match vs.find? (fun p => sameOp p.1 y) with | some p => p.2 | none => undef := fun y hy hc => by
    cases hf : vs.find? (fun p => sameOp p.1 y) with
    | some p =>
      have h1 := List.find?_some hf
      have h2 := List.mem_of_find?_eq_some hf
      rw [← sameOp_eval h1]
      exact litsOf_at H h p h2
    | none =>
      obtain ⟨v, hv⟩ := litsOf_mem h y hy
      have := List.find?_eq_none.1 hf _ hv
      exfalso
      apply this
      cases y <;> first | exact absurd rfl (hc _) | simp [sameOp]
  cases x with
  | const v => rfl
  | tmp t => exact key _ hx (fun v h => by cases h)
  | global t => exact key _ hx (fun v h => by cases h)
  | func t => exact key _ hx (fun v h => by cases h)
theorem times_get (s : Nat) (z : List E) (hz : z.length = s) (hs : 0 < s) : ∀ (n i : Nat), i < n * s → (times n z)[i]? = z[i % s]?
  | 0, i, h => by simp at h
  | n + 1, i, h => by
    unfold times
    by_cases hi : i < s
    · rw [List.getElem?_append_left (by omega), Nat.mod_eq_of_lt hi]
    · obtain ⟨j, rfl⟩ : ∃ j, i = s + j := ⟨i - s, by omega⟩
      rw [Nat.add_mul, Nat.one_mul] at h
      rw [List.getElem?_append_right (by omega), hz, show s + j - s = j by omega, times_get s z hz hs n j (by omega), Nat.add_mod_left]
theorem times_length (z : List E) : ∀ n : Nat, (times n z).length = n * z.length
  | 0 => by simp [times]
  | n + 1 => by simp [times, times_length z n, Nat.add_mul, Nat.add_comm]
theorem times_vals (z : List E) (n : Nat) (hs : 0 < z.length) (ρ : Env) (ι : Lay) : (Array.range (n * z.length)).map (fun i => (E.vals ρ ι z).toArray[i % (E.vals ρ ι z).toArray.size]!) = (E.vals ρ ι (times n z)).toArray := by
  apply Array.ext'
  apply List.ext_getElem?
  intro i
  simp only [Array.toList_map, Array.toList_range, List.getElem?_map, List.size_toArray, E.vals_length, E.vals_get]
  by_cases hi : i < n * z.length
  · rw [List.getElem?_range hi, times_get _ z rfl hs n i hi]
    have hm : i % z.length < z.length := Nat.mod_lt _ hs
    simp [E.vals_get, List.getElem?_eq_getElem hm, getElem!_def]
  · rw [List.getElem?_eq_none (by simpa using hi), List.getElem?_eq_none (by rw [times_length]; omega)]
    rfl
theorem cols_get {l : List E} {s : Nat} : ∀ {n o : Nat} {c : List E}, cols l s n o = some c → c.length = n ∧ ∀ m, m < n → c[m]? = l[o + m * s]?
  | 0, _, _, h => by cases h; exact ⟨rfl, fun m hm => by omega⟩
  | n + 1, o, c, h => by
    unfold cols at h
    split at h
    · rename_i e r h1 h2
      cases h
      obtain ⟨h3, h4⟩ := cols_get h2
      refine ⟨by simp [h3], fun m hm => ?_⟩
      cases m with
      | zero => simp [h1]
      | succ m => rw [List.getElem?_cons_succ, h4 m (by omega), Nat.add_mul]; congr 1; omega
    · cases h
theorem selI_get {k : IntKind} : ∀ {c : List E} {xs : List Int}, selI k c = some xs → xs.length = c.length ∧ ∀ (m : Nat) (e : E), c[m]? = some e → e.val ρ ι = .int k (xs.getD m 0)
  | [], _, h => by cases h; exact ⟨rfl, fun m e h => by simp at h⟩
  | e :: r, xs, h => by
    unfold selI at h
    split at h
    · cases ‹_ = ([] : List E)›
    · rename_i k' x r' heq
      cases heq
      split at h
      · rename_i hk
        subst hk
        split at h
        · rename_i xs' h1
          cases h
          obtain ⟨h2, h3⟩ := selI_get h1
          refine ⟨by simp [h2], fun m e he => ?_⟩
          cases m with
          | zero => simp at he; subst he; rfl
          | succ m => simpa using h3 m e (by simpa using he)
        · cases h
      · cases h
    · cases h
theorem selE_val {t : T} {c : List E} {e : E} (h : selE t c = some e) : ∃ f, c[min (t.den ρ).toNat (c.length - 1)]? = some f ∧ f.val ρ ι = e.val ρ ι := by
  unfold selE at h
  split at h
  · rename_i k a r
    split at h
    · rename_i xs h1
      cases h
      obtain ⟨h2, h3⟩ := selI_get (ρ := ρ) (ι := ι) h1
      have hlt : min (t.den ρ).toNat ((E.int k a :: r).length - 1) < (E.int k a :: r).length := by simp only [List.length_cons]; omega
      refine ⟨_, List.getElem?_eq_getElem hlt, ?_⟩
      rw [h3 _ _ (List.getElem?_eq_getElem hlt)]
      simp only [E.val, T.den, h2]
    · cases h
  · cases h
theorem boundE_run (H : Held σ ρ ι a w) {d n y : Nat} {x : Operand} (h : boundE σ d (some x) = some n) (code : BoundsCode) (hy : n ≤ y) : (Instr.sliceBound (a.eval x) y code).run P w = .ok n w := by
  simp only [boundE] at h
  split at h
  · rename_i k m hx
    split at h
    · rename_i hm
      cases h
      have h1 : 0 ≤ m ∧ m ≤ (y : Int) := ⟨hm, by omega⟩
      simp only [Instr.sliceBound, H.opnd hx, E.val, T.den, asIntOf, Sem.run_bind, Sem.run_pure, Result.andThen_ok, h1, and_self, if_true]
    · cases h
  · cases h
theorem bounds_run (H : Held σ ρ ι a w) {l h n c : Nat} {lo hi : Option Operand} (hl : boundE σ 0 lo = some l) (hh : boundE σ n hi = some h) (h1 : l ≤ h) (h2 : h ≤ c) (isS : Bool) :
    (Instr.sliceBounds isS n c (lo.map a.eval) (hi.map a.eval) none).run P w = .ok (l, h, c) w := by
  unfold Instr.sliceBounds
  cases hi with
  | none =>
    cases hh
    cases lo with
    | none => cases hl; simp only [Option.map_none, Sem.run_bind, Sem.run_pure, Result.andThen_ok]
    | some x => simp only [Option.map_none, Option.map_some, Sem.run_bind, Sem.run_pure, Result.andThen_ok, Option.isSome_none, Bool.false_eq_true, if_false, boundE_run H hl _ h1]
  | some y =>
    have e1 := boundE_run (P := P) H hh (if isS then .sliceAcap else .sliceAlen) h2
    cases lo with
    | none => cases hl; simp only [Option.map_none, Option.map_some, Sem.run_bind, Sem.run_pure, Result.andThen_ok, e1]
    | some x => simp only [Option.map_some, Sem.run_bind, Sem.run_pure, Result.andThen_ok, Option.isSome_none, Bool.false_eq_true, if_false, e1, boundE_run H hl _ h1]
def add64F : Array Value → Sem Value := fun args => do
  let (x, y, c) ← Extern.MathBitsCarry.three "Add64" args
  pure (Extern.MathBitsCarry.pair ((x + y + c) % Extern.MathBitsCarry.m64) ((x + y + c) / Extern.MathBitsCarry.m64))
theorem add64_row : Extern.MathBitsCarry.rows.lookup "math/bits.Add64" = some add64F := rfl
theorem add64_none : Extern.allNextRows.lookup "math/bits.Add64" = none ∧ Extern.allTypedRows.lookup "math/bits.Add64" = none ∧ Extern.allGenericRows.lookup "math/bits.Add64" = none := ⟨by kernel_rfl, by kernel_rfl, by kernel_rfl⟩
theorem add64_some : Extern.allRows.lookup "math/bits.Add64" = Extern.MathBitsCarry.rows.lookup "math/bits.Add64" := by kernel_rfl
theorem add64F_run (k k' k2 : IntKind) (x y : Int) (w : World) :
    (add64F #[.int k x, .int k' y, .int k2 0]).run P w = .ok (.tuple #[.int .u64 ((x.toNat + y.toNat) % 18446744073709551616 : Nat), .int .u64 ((x.toNat + y.toNat) / 18446744073709551616 : Nat)]) w := rfl
theorem add64_run {g : FuncId} (h : isAdd64 P g = true) (k k' k2 : IntKind) (x y : Int) (w : World) :
    (callFunc g #[.int k x, .int k' y, .int k2 0]).run P w = .ok (.value (.tuple #[.int .u64 ((x.toNat + y.toNat) % 18446744073709551616 : Nat), .int .u64 ((x.toNat + y.toNat) / 18446744073709551616 : Nat)])) w := by
  unfold isAdd64 at h
  split at h
  · rename_i fn hf
    simp only [Bool.and_eq_true, beq_iff_eq, Option.isNone_iff_eq_none] at h
    obtain ⟨⟨h1, h2⟩, h3⟩ := h
    have hn : Extern.findNext fn = none := by
      unfold Extern.findNext
      simp only [h1, add64_none.1, h3, Option.map_none]
      rfl
    have he := add64_row
    rw [← add64_some] at he
    have hs : Extern.find fn = some add64F := by
      unfold Extern.find
      simp only [h1, add64_none.2.1, add64_none.2.2, he, Option.map_none]
      rfl
    rw [run_callFunc_extern hf (by rw [h1]; decide) (by rw [h2]; rfl) hn hs]
    rw [add64F_run]
    rfl
  · cases h
theorem eq_some_none {t el : TypeId} {ad : Addr} (hu : P.underlying t = some (.pointer el)) : (Op.equal t (.pointer (some ad)) (.pointer none)).run P w = .ok false w := by
  show (Op.equalIn (9999 + 1) t _ _).run P w = _
  rw [Op.equalIn, Sem.run_bind, run_underlying hu]
  rfl
theorem opS_ok (H : Held σ ρ ι a w) {o : Oper} {d : Do} {ns : List C} (h : opS P σ o = some (d, ns)) (hn : ∀ c ∈ ns, c.den ρ = true) : d.does P σ ρ ι a w o := by
  obtain ⟨dst, op, ty, pos, after, guard⟩ := o
  unfold opS at h
  simp only at h
  split at h
  case h_1 t len parts => -- buildSlice
    split at h
    · rename_i ps el h1 hu
      split at h
      · rename_i z n hz hs
        split at h
        · rename_i hc
          obtain ⟨c1, c2, c3, c4⟩ := hc
          split at h
          · rename_i l hl
            cases h
            obtain ⟨v, g1, g2⟩ := zeroE_run (P := P) hz ρ ι w
            have h3 := H.parts h1
            have h4 : (parts.map fun (i, x) => (i, a.eval x)) = (ps.map fun p => (p.1, p.2.val ρ ι)).toArray := by
              rw [← h3, ← List.map_toArray, Array.toArray_toList]
            have h5 := fillE_run (ρ := ρ) (ι := ι) _ _ _ _ hl
            rw [← times_vals z len (by omega) ρ ι, c3] at h5
            have e1 : ¬ len * n > 2 ^ 24 := by omega
            have e2 : ¬ len * n = 0 := Nat.pos_iff_ne_zero.1 (Nat.mul_pos c1 c2)
            simp only [Do.does, execOp, Instr.buildSlice, h4, Sem.run_bind, run_underlying hu, Result.andThen_ok, sizeE_run hs, if_neg e1, if_neg e2, Sem.run_pure, g1, g2, h5, newRow, newObj, Sem.run, newV]
            rfl
          · cases h
        · cases h
      · cases h
    · cases h
  case h_2 t x y => -- makeSlice
    split at h
    · rename_i kx n ky m el h1 h2 hu
      split at h
      · rename_i i hi
        split at h
        · rename_i v hz
          split at h
          · rename_i hc
            obtain ⟨rfl, c1, c2, c3, c4, c5⟩ := hc
            cases h
            obtain ⟨k, rfl⟩ : ∃ k : Nat, n = k := ⟨n.toNat, by omega⟩
            have hlen : (v.cells.toList.map constC).length = v.cells.size := by simp
            have hr := run_make (P := P) w t el i v hu hi hz kx ky (k : Int) (k : Int) (by omega) (Int.le_refl _) (by
              have h : ((i.bytes * k : Nat) : Int) ≤ 281474976710656 := by simp only [Int.toNat_natCast] at c5; omega
              rwa [Int.natCast_mul] at h) (by
              have h1 : k ≤ k * i.size := Nat.le_mul_of_pos_right _ (by omega)
              simp only [Int.toNat_natCast] at c4
              omega)
            have ht := times_vals (v.cells.toList.map constC) k (by omega) ρ ι
            rw [hlen] at ht
            have hv : (E.vals ρ ι (v.cells.toList.map constC)).toArray = v.cells := by rw [vals_constC]
            simp only [Int.toNat_natCast, ← c3] at hr
            simp only [Do.does, execOp, H.opnd h1, H.opnd h2, E.val, T.den, Sem.run_bind, hr, Result.andThen_ok, Sem.run_pure, newV, Int.toNat_natCast]
            rw [← ht, hv]
            rfl
          · cases h
        · cases h
      · cases h
    · cases h
  case h_3 t x i => -- indexAddr
    split at h
    · rename_i b o n c k t' el h1 h2 hu
      split at h
      · rename_i s hs
        split at h
        · rename_i j
          split at h
          · rename_i hj
            cases h
            simp only [Do.does, execOp, H.opnd h1, H.opnd h2, E.val, T.den, Instr.indexAt, asIntOf, Sem.run_bind, run_underlying hu, Result.andThen_ok, Sem.run_pure, hj, and_self, if_true, sizeE_run hs, addr_add, Nat.add_assoc]
          · cases h
        · split at h
          · rename_i hpos
            cases h
            have n1 := hn _ (List.mem_cons_self ..)
            have n2 := hn _ (List.mem_cons_of_mem _ (List.mem_cons_self ..))
            rw [C.den_cmp'] at n1 n2
            simp only [T.den, intCmp] at n1 n2
            have hj : 0 ≤ t'.den ρ ∧ t'.den ρ < (n : Int) := ⟨of_decide_eq_true n1, of_decide_eq_true n2⟩
            have hmin : min (t'.den ρ).toNat (n - 1) = (t'.den ρ).toNat := by omega
            simp only [Do.does, execOp, H.opnd h1, H.opnd h2, E.val, Instr.indexAt, asIntOf, Sem.run_bind, run_underlying hu, Result.andThen_ok, Sem.run_pure, hj, and_self, if_true, sizeE_run hs, addr_add, Nat.add_assoc, hmin]
          · cases h
      · cases h
    · cases h
  case h_4 t x => -- load
    split at h
    · rename_i b o s n t' h1
      split at h
      · rename_i l h2 h3
        split at h
        · rename_i c h4
          split at h
          · rename_i e h5
            cases h
            obtain ⟨g1, g2⟩ := cols_get h4
            obtain ⟨f, g3, g4⟩ := selE_val (ρ := ρ) (ι := ι) h5
            have hlt := (List.getElem?_eq_some_iff.1 g3).1
            rw [g1] at g3 hlt
            rw [g2 _ hlt] at g3
            have hc := (H.cell b l h2 _ f g3).1
            simp only [Do.does, execOp, H.opnd h1, E.val, Instr.loadAt, Instr.sureAddr, Sem.run_bind, Sem.run_pure, Result.andThen_ok, loadVar, isRowE_run h3, Bool.false_eq_true, if_false, load, Sem.run, hc, g4]
          · cases h
        · cases h
      · cases h
    · cases h
  case h_5 t x lo hi => -- slice
    split at h
    · rename_i b o n c el l h1 hu hl
      split at h
      · rename_i hh s hb hs
        split at h
        · rename_i hc
          obtain ⟨c1, c2, c3⟩ := hc
          cases h
          have e1 := bounds_run (P := P) (w := w) H hl hb c1 c2 true
          have e2 : ¬ c = l := by omega
          simp only [Do.does, execOp, H.opnd h1, E.val, Instr.sliceAt, Instr.slice, Option.map_none, Sem.run_bind, run_underlying hu, Result.andThen_ok, e1, sizeE_run hs, if_neg e2, Option.map_some, addr_add, Sem.run_pure, Nat.add_assoc]
        · cases h
      · cases h
    · rename_i b o n el l h1 hu hl
      split at h
      · rename_i hh s hb hs
        split at h
        · rename_i hc
          obtain ⟨c1, c2, c3⟩ := hc
          cases h
          have e1 := bounds_run (P := P) (w := w) H hl hb c1 c2 false
          have e2 : ¬ n = l := by omega
          simp only [Do.does, execOp, H.opnd h1, E.val, Instr.sliceAt, Instr.sureAddr, Option.map_none, Sem.run_bind, run_underlying hu, Result.andThen_ok, e1, sizeE_run hs, if_neg e2, addr_add, Sem.run_pure, Nat.add_assoc]
        · cases h
      · cases h
    · cases h
  case h_6 c => -- len, and the library's sum
    split at h
    · rename_i h1
      split at h
      · rename_i b o n m t h2 h3
        split at h
        · rename_i el hu
          cases h
          have h5 := H.opnds_arr h2
          simp only [Do.does, execOp, resolve, h1, h5, Sem.run_bind, Sem.run_pure, Result.andThen_ok, invoke, builtin, Builtin.len_, E.vals, E.val, h3]
          simp [run_underlying hu, goInt, T.den]
        · cases h
      · cases h
    · rename_i f h1
      split at h
      · rename_i k x k' y k2 g h2 h3
        split at h
        · rename_i h4
          cases h
          have h5 := H.opnds_arr h2
          have h6 := H.opnd h3
          simp only [Do.does, execOp, resolve, h1, h5, h6, E.vals, E.val, T.den, Deferred.ofValue, Sem.run_bind, Sem.run_pure, Result.andThen_ok, invoke, Array.empty_append, Array.append_empty]
          rw [add64_run h4]
          rfl
        · cases h
      · cases h
    · cases h
  case h_7 bo t x y yt => -- a pointer against nil
    split at h
    · rename_i m k o h1 h2
      split at h
      · rename_i hpt
        unfold isPtrT at hpt
        split at hpt
        · rename_i el hu
          obtain ⟨b', o', e1⟩ := hatV_form (ι.h (m.den ρ).toNat).val
          have hg : (eqGuard bo t x y (.pointer (some ⟨b', o' + ((k.den ρ).toNat + o), none⟩)) (.pointer none)).run P w = .ok () w := by
            unfold eqGuard; cases bo <;> rfl
          split at h
          · cases h
            simp only [Do.does, execOp, H.opnd h1, H.opnd h2, E.val, e1, Sem.run_bind, hg, Result.andThen_ok, binOp, eq_some_none hu, Sem.run_pure, C.den]
          · cases h
            simp only [Do.does, execOp, H.opnd h1, H.opnd h2, E.val, e1, Sem.run_bind, hg, Result.andThen_ok, binOp, eq_some_none hu, Sem.run_pure, C.den, Bool.not_false]
          · cases h
        · cases hpt
      · cases h
    · cases h
  case h_8 => cases h
theorem opX_ok (H : Held σ ρ ι a w) {o : Oper} {d : Do} {ns : List C} (h : opX P σ o = some (d, ns)) (hn : ∀ c ∈ ns, c.den ρ = true) : d.does P σ ρ ι a w o := by
  unfold opX at h
  split at h
  · rename_i h1; cases h; exact opE_ok H h1 hn
  · split at h
    · rename_i h1; cases h; exact opS_ok H h1 hn
    split at h
    · rename_i v h1
      cases h
      unfold opLit at h1
      split at h1
      · cases h1
      · rename_i hsel
        split at h1
        · rename_i vs h2
          split at h1
          · rename_i u h3
            cases h1
            simp only [Do.does, val_constE]
            rw [execOp_congr (ρ' := atList vs) o hsel (fun x hx => atList_eval H h2 (by simpa using hx))]
            exact closed_run w h3
          · cases h1
        · cases h1
    · cases h
end
end Sx
end Go.Proofs.Ytaigdbnfhehclaa
