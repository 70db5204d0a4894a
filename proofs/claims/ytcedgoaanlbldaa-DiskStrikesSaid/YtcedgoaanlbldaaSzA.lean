/-
  What is proved: contracts of comparisons and conversions, in names of objects; no program in sight. Condition: the types are as said.
-/
import Derived.Test.YtcedgoaanlbldaaSyZ
import Derived.Test.YtcedgoaanlbldaaEq
import Derived.Lib.SlBytesConst
import Derived.Laws.IdiomStrings
namespace Go.Proofs.Ytcedgoaanlbldaa
namespace Sx
open Go.RowKit

section
variable {P : Program}
theorem binNo_lt {o : BinOp} {k : Nat} (h : binNo o = some k) : k < 10 := by
  cases o <;> simp [binNo] at h <;> omega
theorem key_eql {op : Op} {t : TypeId} (h : primKey op = some (primBase + (32 * (32 * t) + 12))) : ∃ x y yt, op = .binOp .eql t x y yt := by
  unfold primKey at h
  repeat' split at h
  all_goals (try (exact absurd h.symm (Option.some_ne_none _)))
  all_goals (rw [Option.some.injEq] at h)
  all_goals (try (exfalso; omega))
  rename_i bo t' x y yt oo k hk
  have hk0 := binNo_lt hk
  have h1 : @Eq Nat t' t := by omega
  have h2 : k = 0 := by omega
  subst h1 h2
  cases bo <;> first | (simp [binNo] at hk; done) | exact ⟨_, _, _, rfl⟩
theorem key_neq {op : Op} {t : TypeId} (h : primKey op = some (primBase + (32 * (32 * t + 1) + 12))) : ∃ x y yt, op = .binOp .neq t x y yt := by
  unfold primKey at h
  repeat' split at h
  all_goals (try (exact absurd h.symm (Option.some_ne_none _)))
  all_goals (rw [Option.some.injEq] at h)
  all_goals (try (exfalso; omega))
  rename_i bo t' x y yt oo k hk
  have hk0 := binNo_lt hk
  have h1 : @Eq Nat t' t := by omega
  have h2 : k = 1 := by omega
  subst h1 h2
  cases bo <;> first | (simp [binNo] at hk; done) | exact ⟨_, _, _, rfl⟩
def eqC (t : TypeId) : Con := ⟨primBase + (32 * (32 * t) + 12), [], fun b => (E.bool (.var 0)).shift b, 1, 1, 0⟩
def neC (t : TypeId) : Con := ⟨primBase + (32 * (32 * t + 1) + 12), [], fun b => (E.bool (.var 0)).shift b, 1, 1, 0⟩
/-- How two values compare: r of a store and the values; b the answer. -/
def CmpR (R : List Ob → Value → Value → Bool → Prop) (neg : Bool) (G : List Ob) (l : List Value) (e : Env) : Prop := ∃ x y b, l = [x, y] ∧ R G x y b ∧ e.b 0 = (b != neg)
theorem eq_holds {t : TypeId} {R : List Ob → Value → Value → Bool → Prop} (hloc : ∀ G X x y b, (∀ n, tok n ∈ [x, y] → n < G.length) → (∀ n k, tokAt n k ∈ [x, y] → n < G.length) → (R G x y b ↔ R (G ++ X) x y b))
    (hrun : ∀ (w : World) (h : Nat → OneV) (F : Foot) (G : List Ob) (f : Nat → Foot) (x y : Value) (b : Bool) (ox oy : Operand), Objs w h F G f → R G x y b →
      (∀ o, (eqGuard o t ox oy (concE h x) (concE h y)).run P w = .ok () w) ∧ (binOp .eql t (concE h x) (concE h y)).run P w = .ok (.bool b) w ∧ (binOp .neq t (concE h x) (concE h y)).run P w = .ok (.bool !b) w) :
    (eqC t).holds P (conR (CmpR R false)) ∧ (neC t).holds P (conR (CmpR R true)) := by
  have hl : ∀ neg G G' l e, extG 1 G G' → NoDang (encG G) l → (CmpR R neg G l e ↔ CmpR R neg G' l e) := fun neg G G' l e hx hd => by
    obtain ⟨X, rfl, h1, h2⟩ := loc1 hx hd
    constructor
    · rintro ⟨x, y, b, rfl, g1, g2⟩
      exact ⟨x, y, b, rfl, (hloc G X x y b h1 h2).1 g1, g2⟩
    · rintro ⟨x, y, b, rfl, g1, g2⟩
      exact ⟨x, y, b, rfl, (hloc G X x y b h1 h2).2 g1, g2⟩
  constructor
  · refine read_holds rfl (Nat.le_add_right _ _) (fun G G' l e _ hx hd => hl _ G G' l e hx hd) ?_
    rintro o hkey a w h F G f l e hargs H ⟨x, y, b, rfl, hR, he⟩
    obtain ⟨ox, oy, yt, hop⟩ := key_eql hkey
    have ha := hargs h fun _ _ => rfl
    rw [hop] at ha
    simp only [Op.operands, List.map_cons, List.map_nil, List.cons.injEq, and_true] at ha
    obtain ⟨g1, g2, g3⟩ := hrun w h F G f x y b ox oy H hR
    refine ⟨.bool b, ?_, Inv.of_const fun _ => rfl, by simp only [E.nam, C.den, he]; cases b <;> rfl⟩
    simp only [hop, execOp, ha.1, ha.2, Sem.run_bind, g1, g2, Result.andThen_ok, Sem.run_pure, concE_bool]
  · refine read_holds rfl (Nat.le_add_right _ _) (fun G G' l e _ hx hd => hl _ G G' l e hx hd) ?_
    rintro o hkey a w h F G f l e hargs H ⟨x, y, b, rfl, hR, he⟩
    obtain ⟨ox, oy, yt, hop⟩ := key_neq hkey
    have ha := hargs h fun _ _ => rfl
    rw [hop] at ha
    simp only [Op.operands, List.map_cons, List.map_nil, List.cons.injEq, and_true] at ha
    obtain ⟨g1, g2, g3⟩ := hrun w h F G f x y b ox oy H hR
    refine ⟨.bool !b, ?_, Inv.of_const fun _ => rfl, by simp only [E.nam, C.den, he]; cases b <;> rfl⟩
    simp only [hop, execOp, ha.1, ha.2, Sem.run_bind, g1, g3, Result.andThen_ok, Sem.run_pure, concE_bool]
/-- Is it nil? -/
def isNil : Value → Bool
  | .slice none _ _ => true
  | .pointer none => true
  | .map none => true
  | _ => false
def NilPtr (G : List Ob) (x y : Value) (b : Bool) : Prop := y = .pointer none ∧ b = isNil x ∧ (x = .pointer none ∨ ∃ n k, x = tokAt n k ∧ n < G.length)
theorem eq_none_none {t el : TypeId} {w : World} (hu : P.underlying t = some (.pointer el)) : (Op.equal t (.pointer none) (.pointer none)).run P w = .ok true w := by
  show (Op.equalIn (9999 + 1) t _ _).run P w = _
  rw [Op.equalIn, Sem.run_bind, run_underlying hu]
  rfl
theorem eq_nilslice {t el : TypeId} {w : World} {a : Option Addr} {n c m k : Nat} (hu : P.underlying t = some (.slice el)) : (Op.equal t (.slice a n c) (.slice none m k)).run P w = .ok a.isNone w := by
  show (Op.equalIn (9999 + 1) t _ _).run P w = _
  rw [Op.equalIn, Sem.run_bind, run_underlying hu]
  cases a <;> rfl
theorem ptr_holds {t el : TypeId} (hu : P.underlying t = some (.pointer el)) : (eqC t).holds P (conR (CmpR NilPtr false)) ∧ (neC t).holds P (conR (CmpR NilPtr true)) := by
  refine eq_holds (fun G X x y b h1 h2 => ?_) ?_
  · unfold NilPtr
    rw [List.length_append]
    constructor
    · rintro ⟨g1, g2, g3⟩
      exact ⟨g1, g2, g3.imp id fun ⟨n, k, e, h⟩ => ⟨n, k, e, by omega⟩⟩
    · rintro ⟨g1, g2, g3⟩
      exact ⟨g1, g2, g3.imp id fun ⟨n, k, e, h⟩ => ⟨n, k, e, h2 n k (by simp [e])⟩⟩
  · rintro w h F G f x y b ox oy H ⟨rfl, rfl, h1⟩
    rcases h1 with rfl | ⟨n, k, rfl, hn⟩
    · have e1 : concE h (.pointer none) = .pointer none := rfl
      refine ⟨fun o => by rw [e1]; unfold eqGuard; cases o <;> rfl, ?_, ?_⟩
      · rw [e1]; simp only [binOp, Sem.run_bind, eq_none_none hu, Result.andThen_ok, Sem.run_pure]; rfl
      · rw [e1]; simp only [binOp, Sem.run_bind, eq_none_none hu, Result.andThen_ok, Sem.run_pure]; rfl
    · have e1 : concE h (.pointer none) = .pointer none := rfl
      obtain ⟨b', o', e2⟩ := hatV_form (h n).val
      rw [e1, concE_at, e2]
      refine ⟨fun o => by unfold eqGuard; cases o <;> rfl, ?_, ?_⟩
      · simp only [binOp, Sem.run_bind, eq_some_none hu, Result.andThen_ok, Sem.run_pure]; rfl
      · simp only [binOp, Sem.run_bind, eq_some_none hu, Result.andThen_ok, Sem.run_pure]; rfl
def NilSl (G : List Ob) (x y : Value) (b : Bool) : Prop := y = .slice none 0 0 ∧ b = isNil x ∧ ∃ s len cells, Sl G x s len cells
theorem slice_holds {t el : TypeId} (hu : P.underlying t = some (.slice el)) : (eqC t).holds P (conR (CmpR NilSl false)) ∧ (neC t).holds P (conR (CmpR NilSl true)) := by
  refine eq_holds (fun G X x y b h1 h2 => ?_) ?_
  · constructor
    · rintro ⟨g1, g2, s, len, cells, g3⟩
      exact ⟨g1, g2, s, len, cells, g3.append⟩
    · rintro ⟨g1, g2, s, len, cells, g3⟩
      exact ⟨g1, g2, s, len, cells, (Sl.loc fun n hn => h1 n (by simp [hn])).2 g3⟩
  · rintro w h F G f x y b ox oy H ⟨rfl, rfl, s, len, cells, h1⟩
    have e1 : concE h (.slice none 0 0) = .slice none 0 0 := rfl
    obtain ⟨a, cap, hv, hb⟩ : ∃ a cap, concE h x = .slice a len cap ∧ a.isNone = isNil x := by
      rcases h1 with ⟨rfl, rfl, rfl⟩ | ⟨m, k, all, h1, _⟩
      · exact ⟨none, 0, rfl, rfl⟩
      · obtain ⟨a, cap, g1, _⟩ := h1.val H
        obtain ⟨n, rfl, _⟩ := h1
        exact ⟨_, cap, g1, rfl⟩
    rw [e1, hv]
    refine ⟨fun o => by unfold eqGuard; cases o <;> rfl, ?_, ?_⟩
    · simp only [binOp, Sem.run_bind, eq_nilslice hu, Result.andThen_ok, Sem.run_pure, hb]
    · simp only [binOp, Sem.run_bind, eq_nilslice hu, Result.andThen_ok, Sem.run_pure, hb]
/-- Arrays of integers. -/
def IntsEq (n : Nat) (k : IntKind) (_ : List Ob) (x y : Value) (b : Bool) : Prop := ∃ xs ys : List Int, x = .agg (xs.map (Value.int k)).toArray ∧ y = .agg (ys.map (Value.int k)).toArray ∧ xs.length = n ∧ ys.length = n ∧ b = decide (xs = ys)
theorem eqItems_ints {e : TypeId} {k : IntKind} (hu : P.underlying e = some (.int k)) (dd : Nat) (w : World) (xs ys : List Int) : ∀ (m i : Nat), i + m = xs.length → i + m = ys.length →
    (Op.eqItems (dd + 1) e 1 (xs.map (Value.int k)).toArray (ys.map (Value.int k)).toArray (List.range' i m)).run P w = .ok (decide (xs.drop i = ys.drop i)) w
  | 0, i, h1, h2 => by rw [List.range'_zero]; simp [Op.eqItems, List.drop_eq_nil_of_le (show xs.length ≤ i by omega), List.drop_eq_nil_of_le (show ys.length ≤ i by omega)]
  | m + 1, i, h1, h2 => by
    have hp' : P.plainKey e = true := by simp [Program.plainKey, hu]
    have hi1 : i < xs.length := by omega
    have hi2 : i < ys.length := by omega
    have p1 : (part e (xs.map (Value.int k)).toArray i).run P w = .ok (.int k xs[i]) w := run_part_plain w hp' (by simp [hi1])
    have p2 : (part e (ys.map (Value.int k)).toArray i).run P w = .ok (.int k ys[i]) w := run_part_plain w hp' (by simp [hi2])
    have p3 : (Op.equalIn (dd + 1) e (.int k xs[i]) (.int k ys[i])).run P w = .ok (xs[i] == ys[i]) w := run_equalIn_int w dd e k k _ _ hu
    have ih := eqItems_ints hu dd w xs ys m (i + 1) (by omega) (by omega)
    rw [List.range'_succ]
    simp only [Op.eqItems, Nat.mul_one, Sem.run_bind, p1, p2, p3, Result.andThen_ok]
    rw [List.drop_eq_getElem_cons hi1, List.drop_eq_getElem_cons hi2]
    by_cases hq : xs[i] = ys[i]
    · rw [if_neg (by simp [hq]), ih]
      simp only [List.cons.injEq, hq, true_and]
    · rw [if_pos (by simp [hq])]
      simp only [List.cons.injEq, hq, false_and, decide_false]
      rfl
theorem ints_holds {t e : TypeId} {n : Nat} {i : TypeInfo} {k : IntKind} (hu : P.underlying t = some (.array n e)) (hi : P.info? e = some i) (he : P.underlying e = some (.int k)) (hc : P.cellsOf e = 1) (hg : P.eqGuardType P.depth t = false) :
    (eqC t).holds P (conR (CmpR (IntsEq n k) false)) ∧ (neC t).holds P (conR (CmpR (IntsEq n k) true)) := by
  refine eq_holds (fun G X x y b h1 h2 => Iff.rfl) ?_
  rintro w h F G f x y b ox oy H ⟨xs, ys, rfl, rfl, hx, hy, rfl⟩
  have hcn : ∀ zs : List Int, concE h (.agg (zs.map (Value.int k)).toArray) = .agg (zs.map (Value.int k)).toArray := fun zs => by
    rw [concE_agg, List.map_toArray, List.map_map]
    rfl
  rw [hcn, hcn]
  have heq : (Op.equal t (.agg (xs.map (Value.int k)).toArray) (.agg (ys.map (Value.int k)).toArray)).run P w = .ok (decide (xs = ys)) w := by
    show (Op.equalIn (9999 + 1) t _ _).run P w = _
    rw [run_equalIn_array w 9999 _ _ hu hi, hc, List.range_eq_range']
    have := eqItems_ints (P := P) he 9998 w xs ys n 0 (by omega) (by omega)
    simpa using this
  refine ⟨fun o => ?_, ?_, ?_⟩
  · unfold eqGuard
    cases o <;> first | rfl | simp [hg]
  · simp only [binOp, Sem.run_bind, heq, Result.andThen_ok, Sem.run_pure]
  · simp only [binOp, Sem.run_bind, heq, Result.andThen_ok, Sem.run_pure]
/-- Strings. -/
def StrEq (_ : List Ob) (x y : Value) (b : Bool) : Prop := ∃ s s' : ByteArray, x = .string s ∧ y = .string s' ∧ b = (s.toList == s'.toList)
theorem str_holds {t : TypeId} : (eqC t).holds P (conR (CmpR StrEq false)) ∧ (neC t).holds P (conR (CmpR StrEq true)) := by
  refine eq_holds (fun G X x y b h1 h2 => Iff.rfl) ?_
  rintro w h F G f x y b ox oy H ⟨s, s', rfl, rfl, rfl⟩
  have hcn : ∀ s : ByteArray, concE h (.string s) = .string s := fun _ => rfl
  rw [hcn, hcn]
  refine ⟨fun o => ?_, ?_, ?_⟩
  · unfold eqGuard; cases o <;> rfl
  · simp only [binOp, Op.stringOp, Sem.run_pure]
  · simp only [binOp, Op.stringOp, Sem.run_pure]
end
end Sx
end Go.Proofs.Ytcedgoaanlbldaa
