/-
  What is proved: contracts of conversions of bytes, and of parts of slices, in names of objects; no program in sight. Condition: the types are as said.
-/
import Derived.Test.YtcedgoaanlbldaaSzC
import Derived.Laws.BytesString
namespace Go.Proofs.Ytcedgoaanlbldaa
namespace Sx
open Go.RowKit

section
variable {P : Program}
set_option maxRecDepth 100000 in
theorem key_conv {op : Op} {s d : TypeId} (hd : d < 10000) (h : primKey op = some (primBase + (32 * (s * 10000 + d) + 14))) : ∃ x, op = .convert s d x := by
  unfold primKey at h
  repeat' split at h
  all_goals (try (exact absurd h.symm (Option.some_ne_none _)))
  all_goals (rw [Option.some.injEq] at h)
  all_goals (try (exfalso; omega))
  rename_i s' d' x hc
  have hc' : @LT.lt Nat instLTNat d' 10000 := hc
  have hd' : @LT.lt Nat instLTNat d 10000 := hd
  have h1 : @Eq Nat s' s := by omega
  have h2 : @Eq Nat d' d := by omega
  subst h1 h2
  exact ⟨_, rfl⟩
def convC (s d : TypeId) : Con := ⟨primBase + (32 * (s * 10000 + d) + 14), [], fun b => (E.hnd 0).shift b, 2, 0, 1⟩
/-- A literal's bytes stay what they are. -/
def convR (G : List Ob) (l : List Value) (e : Env) : Prop := ∃ n len cells, l = [tok n] ∧ G[n]? = some (.row 1 len cells) ∧ 0 < len ∧ e.v 0 = tok n ∧ e.g gv = encG G
theorem freeze_frozen {w : World} {b n i x : Nat} {e : TypeId} (h : w.shape? b = some (e, n)) (hsn : Sane w b) (hz : ∀ x, x < n → w.frozen? ⟨b, x, none⟩ = false) (hx : i = b → x < n) : (w.freeze ⟨b, n, none⟩ 1).frozen? ⟨i, x, none⟩ = w.frozen? ⟨i, x, none⟩ := by
  unfold World.freeze
  rw [if_neg (by decide)]
  unfold World.frozen?
  simp only [Array.getElem?_modify]
  by_cases e1 : b = i
  · subst e1
    have hxn := hx rfl
    unfold World.shape? at h
    cases hq : w.heap[b]? with
    | none => simp [hq] at h
    | some ob =>
      cases ob with
      | cells c el f =>
        obtain ⟨lo, hi⟩ := f
        simp only [if_true, Option.map_some]
        have hzx : ∀ y, y < n → (decide (lo ≤ y) && decide (y < hi)) = false := fun y hy => by
          have := hz y hy
          unfold World.frozen? at this
          simpa [hq] using this
        have h1 := hzx x hxn
        rw [h1]
        by_cases e2 : lo = hi
        · subst e2
          simp only [beq_self_eq_true, if_true]
          simp
          omega
        · have e3 : (lo == hi) = false := by simpa using e2
          have hlh := hsn _ _ _ _ hq
          simp only [e3, Bool.false_eq_true, if_false]
          simp
          intro hlo
          by_cases hlt : lo < n
          · have h2 := hzx lo hlt
            simp at h2
            have h3 : lo ≤ x := by omega
            simp [h3] at h1
            omega
          · omega
      | _ => simp [hq] at h
  · rw [if_neg e1]
theorem conv_holds {t el : TypeId} (hu : P.underlying t = some (.slice el)) (he : P.underlying el = some (.int .u8)) (ht : t < 10000) : (convC t t).holds P (conR convR) := by
  refine turn_holds rfl (Nat.le_add_right _ _) (fun G l e _ ⟨_, _, _, _, _, _, _, hG⟩ => ⟨G, hG, ⟨[], by simp⟩⟩) ?_
  rintro o hkey a w h F G f l e hargs H ⟨n, len, cells, rfl, hn, hlen, hev, hG⟩
  obtain ⟨x, hop⟩ := key_conv ht hkey
  obtain ⟨b, o', cap, h1, h2, h4, h5, h6, h7, h8, ⟨⟨⟨sh, h9⟩, h9s⟩, h10⟩⟩ := H.ob n _ hn
  have ha := hargs h fun _ _ => rfl
  rw [hop] at ha
  simp only [Op.operands, List.map_cons, List.map_nil, concE_name, h1, List.cons.injEq, and_true] at ha
  have hcell : ∀ p, (w.freeze ⟨b, o' + cap * 1, none⟩ 1).cell? p = w.cell? p := fun p => by
    unfold World.freeze
    rw [if_neg (by decide)]
    unfold World.cell?
    simp only [Array.getElem?_modify]
    by_cases e1 : b = p.block
    · rw [if_pos e1]
      cases hq : w.heap[p.block]? with
      | none => rfl
      | some ob => cases ob <;> rfl
    · rw [if_neg e1]
  have hshape : ∀ i, (w.freeze ⟨b, o' + cap * 1, none⟩ 1).shape? i = w.shape? i := fun i => by
    unfold World.freeze
    rw [if_neg (by decide)]
    unfold World.shape?
    simp only [Array.getElem?_modify]
    by_cases e1 : b = i
    · rw [if_pos e1]
      cases hq : w.heap[i]? with
      | none => rfl
      | some ob => cases ob <;> rfl
    · rw [if_neg e1]
  have hsane : ∀ i, Sane w i → Sane (w.freeze ⟨b, o' + cap * 1, none⟩ 1) i := fun i hs c e lo hi hc => by
    unfold World.freeze at hc
    rw [if_neg (by decide)] at hc
    simp only [Array.getElem?_modify] at hc
    by_cases e1 : b = i
    · rw [if_pos e1] at hc
      cases hq : w.heap[i]? with
      | none => simp [hq] at hc
      | some ob =>
        cases ob with
        | cells c' e' f' =>
          obtain ⟨l', u'⟩ := f'
          have hlu := hs _ _ _ _ hq
          simp only [hq, Option.map_some, Option.some.injEq, Obj.cells.injEq] at hc
          obtain ⟨_, _, hc⟩ := hc
          split at hc <;> (cases hc; omega)
        | _ => simp [hq] at hc
    · rw [if_neg e1] at hc
      exact hs _ _ _ _ hc
  have hfr : Fr (f n) w (w.freeze ⟨b, o' + cap * 1, none⟩ 1) := by
    refine ⟨?_, ?_, ?_, ?_, fun i hi hno => ?_, fun i x hi _ => hcell _, fun i x hi => freeze_frozen h9 h9s h10 fun e => ?_, fun i _ => hshape i, fun i _ hs => hsane i hs, fun i hi hno => ?_⟩
    · unfold World.freeze; rw [if_neg (by decide)]
    · unfold World.freeze; rw [if_neg (by decide)]
    · unfold World.freeze; rw [if_neg (by decide)]
    · unfold World.freeze; rw [if_neg (by decide)]; simp
    · have hne : b ≠ i := fun e => hno o' ((h8 _ _).2 ⟨e.symm, Nat.le_refl _⟩)
      unfold World.freeze
      rw [if_neg (by decide)]
      simp only [Array.getElem?_modify, if_neg hne]
    · subst e
      obtain ⟨e', n', g1, g2⟩ := cell_there.1 hi
      rw [h9] at g1
      cases g1
      exact g2
    · have hne : b ≠ i := fun e => by
        refine hno (o' + cap * 1) ?_ ((h8 _ _).2 ⟨e.symm, by omega⟩)
        subst e
        cases hc : w.cell? ⟨b, o' + cap * 1, none⟩ with
        | none => rfl
        | some v =>
          obtain ⟨e', n', g1, g2⟩ := cell_there.1 (show (w.cell? ⟨b, o' + cap * 1, none⟩).isSome = true by rw [hc]; rfl)
          rw [h9] at g1
          cases g1
          omega
      unfold frozenL World.freeze
      rw [if_neg (by decide)]
      simp only [Array.getElem?_modify, if_neg hne]
  have hset := H.set hfr (i := n) (o' := .row 1 len cells) (f' := f n) hn rfl (fun _ _ _ hx => hx) (fun _ _ hx => .inl hx)
    ⟨b, o', cap, h1, h2, h4, h5, fun j hj => by rw [hcell, freeze_frozen h9 h9s h10 fun _ => by omega]; exact h6 j hj, fun j c hj => (h7 j c hj).keep (hcell _), h8, ⟨⟨sh, (hshape b).trans h9⟩, hsane b h9s⟩, fun x hx => by rw [freeze_frozen h9 h9s h10 fun _ => hx]; exact h10 x hx⟩
  have hG' : G.set n (.row 1 len cells) = G := by
    apply List.ext_getElem?
    intro i
    by_cases e : n = i
    · subst e; rw [List.getElem?_set_self (List.getElem?_eq_some_iff.1 hn).1, hn]
    · rw [List.getElem?_set_ne e]
  rw [hG'] at hset
  refine ⟨_, _, h, _, _, G, ?_, hG, .inl ⟨tok n, rfl, by simp only [E.nam, hev]; exact oneOf_eq rfl, Inv.name (List.getElem?_eq_some_iff.1 hn).1⟩, hfr.mono (fun b1 x1 _ hx => (H.foot _ _).2 ⟨n, (List.getElem?_eq_some_iff.1 hn).1, hx⟩), hset.1, hset.2, Nat.le_refl _, fun _ _ => rfl⟩
  have hmark : (markStringish ⟨b, o', none⟩).run P w = .ok () (w.freeze ⟨b, o' + cap * 1, none⟩ 1) := by
    unfold markStringish
    rw [Sem.run_bind]
    have : (shape b).run P w = .ok (w.shape? b) w := rfl
    rw [this, h9]
    rfl
  simp only [hop, execOp, ha, convert, Sem.run_bind, run_underlying hu, Result.andThen_ok, beq_self_eq_true, run_underlying he, hmark, Sem.run_pure, concE_name, h1]
/-- Bytes become a string. -/
def strOf (ns : List Int) : ByteArray := ns.foldl (fun r n => r.push (UInt8.ofNat n.toNat)) ByteArray.empty
def b2sC (s d : TypeId) : Con := ⟨primBase + (32 * (s * 10000 + d) + 14), [], fun b => (E.hnd 0).shift b, 1, 1, 0⟩
def b2sR (G : List Ob) (l : List Value) (e : Env) : Prop := ∃ v ns, l = [v] ∧ Sl G v 1 ns.length (ns.map (Value.int .u8)) ∧ e.v 0 = .string (strOf ns)
theorem b2s_holds {s d el : TypeId} (hu : P.underlying s = some (.slice el)) (he : P.underlying el = some (.int .u8)) (hv : P.underlying d = some .string) (hd : d < 10000) : (b2sC s d).holds P (conR b2sR) := by
  refine read_holds rfl (Nat.le_add_right _ _) (fun G G' l e _ hx hdn => ?_) ?_
  · obtain ⟨X, rfl, h1, h2⟩ := loc1 hx hdn
    constructor
    · rintro ⟨v, ns, rfl, g1, g2⟩
      exact ⟨v, ns, rfl, g1.append, g2⟩
    · rintro ⟨v, ns, rfl, g1, g2⟩
      exact ⟨v, ns, rfl, (Sl.loc fun n hn => h1 n (by rw [hn]; exact List.mem_singleton.2 rfl)).2 g1, g2⟩
  · rintro o hkey a w h F G f l e hargs H ⟨v, ns, rfl, hsl, hev⟩
    obtain ⟨x, hop⟩ := key_conv hd hkey
    obtain ⟨ad, cap, hvv, _, hcells, _⟩ := hsl.at_ H
    have ha := hargs h fun _ _ => rfl
    rw [hop] at ha
    simp only [Op.operands, List.map_cons, List.map_nil, hvv, List.cons.injEq, and_true] at ha
    refine ⟨.string (strOf ns), ?_, Inv.of_const fun _ => rfl, by simp only [E.nam, hev]; exact oneOf_eq rfl⟩
    have hrun : (Conv.bytesToString (.slice ad ns.length cap)).run P w = .ok (.string (strOf ns)) w := by
      cases ad with
      | none =>
        cases ns with
        | nil => rfl
        | cons n ns =>
          obtain ⟨b, o', e1, _⟩ := hcells (by simp)
          cases e1
      | some ad =>
        refine run_bytesToString w ad ns.length cap ns ?_
        by_cases h0 : 0 < ns.length
        · obtain ⟨b, o', e1, hc⟩ := hcells (by simpa using h0)
          cases e1
          have := run_loadCells_list (P := P) (w := w) ⟨b, o', none⟩ (ns.map (Value.int .u8)) (fun j u hj => by
            rw [addr_add, (hc j u hj).cell]
            rw [List.getElem?_map] at hj
            cases hq : ns[j]? with
            | none => simp [hq] at hj
            | some y => simp [hq] at hj; subst hj; rfl)
          simpa using this
        · have : ns = [] := List.length_eq_zero_iff.1 (by omega)
          subst this
          exact run_loadCells_list (P := P) (w := w) ad [] (fun j u hj => by simp at hj)
    have hconv : (convert s d (.slice ad ns.length cap)).run P w = .ok (.string (strOf ns)) w := by
      rw [run_convert_bytes_string w s d el ad ns.length cap hu he hv, hrun]
    simp only [hop, execOp, ha, Sem.run_bind, hconv, Result.andThen_ok, Sem.run_pure]
    rfl
theorem key_slice {op : Op} {t : TypeId} {lo hi : Bool} (h : primKey op = some (primBase + (32 * (4 * t + (if lo then 1 else 0) + (if hi then 2 else 0)) + 4))) : ∃ x l u, op = .slice t x l u none ∧ l.isSome = lo ∧ u.isSome = hi := by
  unfold primKey at h
  split at h
  case h_4 t' x l u =>
    rw [Option.some.injEq] at h
    cases hl : l.isSome <;> cases hu : u.isSome <;> cases lo <;> cases hi <;> simp only [hl, hu, if_true, Bool.false_eq_true, if_false] at h <;> first
      | (exfalso; omega)
      | (have h1 : @Eq Nat t' t := by omega
         subst h1
         exact ⟨_, _, _, rfl, hl, hu⟩)
  all_goals (exfalso; repeat' split at h)
  all_goals (try (exact absurd h.symm (Option.some_ne_none _)))
  all_goals (rw [Option.some.injEq] at h)
  all_goals omega
end
end Sx
end Go.Proofs.Ytcedgoaanlbldaa
