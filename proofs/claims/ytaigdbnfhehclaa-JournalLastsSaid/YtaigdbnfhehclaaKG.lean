/- What is proved: append of nil slices to a row of the call's own; frames that are read, apart from a disk and a journal. No condition but those each law names. -/
import Derived.Test.YtaigdbnfhehclaaK3
namespace Go.Proofs.Ytaigdbnfhehclaa
open Go.RowKit
open Sx (Ab DW Turns Did Foot z128)
set_option maxRecDepth 100000

theorem nil_cells (k : Nat) : Builtin.zeroCells (Value.slice none 0 0).cells k = (List.replicate k (Value.slice none 0 0)).toArray := by
  apply Array.ext
  · rw [size_zeroCells]
    have : (Value.slice none 0 0).cells.size = 1 := rfl
    simp [this]
  · intro i h1 h2
    simp [Builtin.zeroCells, Value.cells, Nat.mod_one]
theorem run_nils_own {w : World} {base n k : Nat} {v : Value} {xs : List Value} (ty : TypeId) (hown : w.ownsRow base 32 1 v n xs) (hn : n ≤ 255) (hk : k ≤ 255) (hnk : 0 < n + k) (hbase : base ≤ w.heap.size) :
    ∃ v' w', (Builtin.append_ #[69, 3] ty #[v, .int .i64 k]).run Try.prog w = .ok v' w' ∧ w'.ownsRow base 32 1 v' (n + k) (xs ++ List.replicate k (.slice none 0 0)) ∧ w.grownBy w' v.ownBlock ∧ (v'.ownBlock = v.ownBlock ∨ v'.ownBlock = some w.heap.size) := by
  obtain ⟨i, hi, hz, hsz, hby⟩ := info_parts (show (Try.prog.info? 32).map (fun i => (i.zero, i.size, i.bytes)) = some (some (.slice none 0 0), 1, 24) by kernel_rfl)
  have hlen : (xs ++ List.replicate k (Value.slice none 0 0)).length = (n + k) * 1 := by rw [List.length_append, hown.1, List.length_replicate, Nat.add_mul, Nat.mul_one k]
  have h1 : ∀ u ∈ List.replicate k (Value.slice none 0 0), u.oneCell' = true := fun u hu => by rw [List.eq_of_mem_replicate hu]; rfl
  have hzk := nil_cells k
  have hzl : (List.replicate k (Value.slice none 0 0)).length = k := List.length_replicate
  generalize List.replicate k (Value.slice none 0 0) = zs at *
  rcases hown.2 with ⟨rfl, rfl⟩ | ⟨g, cap, cur, rfl, hbg, hg, hnc, hcm, hcs, htake⟩
  · have hx : xs = [] := List.eq_nil_of_length_eq_zero (by simpa using hown.1)
    subst hx
    have hr := Lib.run_append_grow_zeros (P := Try.prog) w 69 3 ty 32 i (.slice none 0 0) .i64 .i64 Try.underlying69 Try.underlying3 hi hz none 0 0 [] (run_firstCells_none _ _ _ _ _) k (by omega) (by rw [hsz]; decide) (by omega) (by omega) (by rw [hby]; omega) (growslice_fits (by omega) (by rw [hby]; omega))
    have hge := grownCap_ge w (0 + k) 0 32
    have hcm2 : grownCap w (0 + k) 0 32 ≤ maxLen := grownCap_le_maxLen w (0 + k) 0 32 (by simp only [maxLen]; omega)
    rw [hzk] at hr
    refine ⟨_, _, hr, ⟨hlen, .inr ⟨w.heap.size, _, _, rfl, hbase, heap_alloc_new w.drew _, hge, hcm2, ?_, ?_⟩⟩, ⟨rfl, rfl, rfl, by simp, fun k hk _ => heap_alloc_old w.drew _ hk⟩, .inr rfl⟩
    · have hzc : (Value.slice none 0 0).cells.size = 1 := rfl
      simp only [Array.size_append, List.size_toArray, size_zeroCells, hzc, hzl, List.length_nil]
      omega
    · simp only [Array.toList_append, List.append_assoc]
      rw [← List.append_assoc, ← hlen]
      exact List.take_left
  · by_cases hroom : n + k ≤ cap
    · have hst := run_storeCells_at Try.prog g n 32 zs 0 cur w hg (by omega) h1
      simp only [Nat.add_zero, hzl] at hst
      refine ⟨.slice (some ⟨g, 0, none⟩) (n + k) cap, w.setRow g (cur.toList.take n ++ zs ++ cur.toList.drop (n + k)).toArray, ?_, ⟨hlen, .inr ⟨g, cap, _, rfl, hbg, setRow_heap w g cur _ 32 _ hg, hroom, hcm, ?_, ?_⟩⟩, ⟨rfl, rfl, rfl, by simp, fun k hk hne => setRow_other w g k _ (fun e => hne (by simp [Value.ownBlock, e]))⟩, .inl rfl⟩
      · have hwk : ((k : Int) + 9223372036854775808) % 18446744073709551616 - 9223372036854775808 = k := by omega
        have hk0 : ¬ (k : Int) < 0 := by omega
        have hk2 : ¬ (281474976710656 : Int) < k * 24 := by omega
        by_cases hkz : k = 0
        · have hz0 : zs = [] := List.eq_nil_of_length_eq_zero (by omega)
          subst hz0
          simp [hwk, hk0, hk2, hkz, Builtin.append_, run_underlying Try.underlying69, run_underlying Try.underlying3, sizeOf, typeInfo, zeroValue, hi, hz, hsz, hby, asInt, asIntOf, IntKind.wrap_i64, hroom, hzk, Addr.add_lit, hst]
          exact fun hcn => absurd hnc (by omega)
        · simp [hwk, hk0, hk2, hkz, Builtin.append_, run_underlying Try.underlying69, run_underlying Try.underlying3, sizeOf, typeInfo, zeroValue, hi, hz, hsz, hby, asInt, asIntOf, IntKind.wrap_i64, hroom, hzk, Addr.add_lit, hst]
      · simp only [List.size_toArray, List.length_append, List.length_take, List.length_drop, Array.length_toList, hzl]
        omega
      · rw [Nat.mul_one] at htake
        show ((cur.toList.take n ++ zs ++ cur.toList.drop (n + k)).take ((n + k) * 1)) = _
        rw [htake, ← hlen]
        exact List.take_left
    · have hold := run_firstCells_some (P := Try.prog) w.drew i.size n ⟨g, 0, none⟩ n cap xs (by rw [hsz]; exact hown.1) (fun j u hu => by have := hown.cells (g := g) rfl j u hu; exact this)
      have hr := Lib.run_append_grow_zeros (P := Try.prog) w 69 3 ty 32 i (.slice none 0 0) .i64 .i64 Try.underlying69 Try.underlying3 hi hz (some ⟨g, 0, none⟩) n cap xs hold k (by omega) (by rw [hsz]; decide) (by omega) (by omega) (by rw [hby]; omega) (growslice_fits (by omega) (by rw [hby]; omega))
      have hge := grownCap_ge w (n + k) cap 32
      have hcm2 : grownCap w (n + k) cap 32 ≤ maxLen := grownCap_le_maxLen w (n + k) cap 32 (by simp only [maxLen]; omega)
      rw [hzk] at hr
      refine ⟨_, _, hr, ⟨hlen, .inr ⟨w.heap.size, _, _, rfl, hbase, heap_alloc_new w.drew _, hge, hcm2, ?_, ?_⟩⟩, ⟨rfl, rfl, rfl, by simp, fun k hk _ => heap_alloc_old w.drew _ hk⟩, .inr rfl⟩
      · have hx := hown.1
        have hzc : (Value.slice none 0 0).cells.size = 1 := rfl
        simp only [Array.size_append, List.size_toArray, size_zeroCells, hzc, hzl, hx]
        omega
      · simp only [Array.toList_append, List.append_assoc]
        rw [← List.append_assoc, ← hlen]
        exact List.take_left
theorem wp_nils {w : World} {ops : Array Oper} {rest : List Oper} {o : Oper} {a : Act} {Q : Exit → Act → World → Prop} (hw : Region.wanted o (yielded ops a.tmps) = true) (s x : Operand)
    (ho : o.op = .call { callee := .builtin .append, args := #[s, x], argTypes := #[69, 3] }) (vs vx : Value) (hs : a.eval s = vs) (hx : a.eval x = vx)
    (v' : Value) (w' : World) (hr : (Builtin.append_ #[69, 3] o.type #[vs, vx]).run Try.prog w = .ok v' w') (h : wpList Try.prog ops Q rest (a.put o.dst v') w') : wpList Try.prog ops Q (o :: rest) a w :=
  wpList_step fun K hK => by
    rw [if_pos hw]
    exact Lib.wp_append_run w s x 69 3 ho vs vx hs hx v' w' hr (hK _ _ h)
/-- Frames that are read, apart from F. -/
structure FrA (w : World) (F : Foot) (ao : Option Addr) (n c : Nat) (L : List Fm) : Prop where
  rd : FrR w ao n c L
  clear : ∀ k o, ao = some ⟨k, o, none⟩ → ∀ x, ¬ F k x
  bclear : ∀ f ∈ L, ∀ k o, f.ao = some ⟨k, o, none⟩ → ∀ x, ¬ F k x
theorem sl_block_lt {w : World} {k o n c : Nat} {vs : List Value} (h : Sl w (some ⟨k, o, none⟩) n c vs) (hv : vs ≠ []) : k < w.heap.size := by
  obtain ⟨b, o2, e, hb, _⟩ := h.at (by have := h.len; have := List.length_pos_iff.2 hv; omega)
  cases e
  exact hb
theorem sl_same {w w' : World} {ao : Option Addr} {n c : Nat} {vs : List Value} (h : Sl w ao n c vs) (hk : ∀ k o, ao = some ⟨k, o, none⟩ → k < w.heap.size → w'.heap[k]? = w.heap[k]?) : Sl w' ao n c vs := by
  refine ⟨h.len, h.le, h.nil, ?_⟩
  rcases h.cells with e | ⟨k, o, e, hc⟩
  · exact .inl e
  · refine .inr ⟨k, o, e, fun y x hy => ?_⟩
    have hlt := World.block_lt_of_cell? w ⟨k, o + y, none⟩ (hc y x hy)
    rw [← hc y x hy]
    unfold World.cell?
    rw [hk k o e hlt]
theorem FrA.tb {w w' : World} {F F' : Foot} {ao : Option Addr} {n c : Nat} {L : List Fm} (h : FrA w F ao n c L) (ht : TB F w F' w') (hlt : ∀ k o, ao = some ⟨k, o, none⟩ → k < w.heap.size) (hblt : ∀ f ∈ L, ∀ k o, f.ao = some ⟨k, o, none⟩ → k < w.heap.size) : FrA w' F' ao n c L := by
  refine ⟨⟨h.rd.len, h.rd.le, h.rd.nil, fun i f hf => ?_⟩, fun k o e x hx => (ht.fb k x hx).elim (h.clear k o e x) fun h2 => absurd (hlt k o e) (by omega),
    fun f hf k o e x hx => (ht.fb k x hx).elim (h.bclear f hf k o e x) fun h2 => absurd (hblt f hf k o e) (by omega)⟩
  obtain ⟨b, o, e, h1, h2, h3⟩ := h.rd.each i f hf
  have he := ht.t.block b (hlt b o e) (h.clear b o e)
  refine ⟨b, o, e, ?_, ?_, sl_same h3 fun k o e hk => ht.t.block k hk (h.bclear f (List.mem_of_getElem? hf) k o e)⟩
  · rw [← h1]; unfold World.cell?; rw [he]
  · rw [← h2]; unfold World.cell?; rw [he]
theorem own_lt_addr {w : World} {B e s n m c k o : Nat} {xs : List Value} (h : w.ownsRow B e s (.slice (some ⟨k, o, none⟩) m c) n xs) : k < w.heap.size ∧ (Value.slice (some ⟨k, o, none⟩) m c).ownBlock = some k := by
  rcases h.2 with ⟨hv, _⟩ | ⟨g, c', cur, hv, hb, hg, _⟩
  · cases hv
  · cases hv
    exact ⟨(Array.getElem?_eq_some_iff.1 hg).1, rfl⟩
/-- Frames of a call's own are such. -/
theorem FrW.reads {w : World} {F : Foot} {B n c : Nat} {ao : Option Addr} {L : List Fm} (h : FrW w F B (.slice ao n c) L) (hn : L.length = n) : FrA w F ao n c L ∧ (∀ k o, ao = some ⟨k, o, none⟩ → k < w.heap.size) ∧ ∀ f ∈ L, ∀ k o, f.ao = some ⟨k, o, none⟩ → k < w.heap.size := by
  refine ⟨⟨h.fr.reads hn, fun k o e => ?_, fun f hf k o e => ?_⟩, fun k o e => ?_, fun f hf k o e => ?_⟩
  · subst e; exact h.clear k (own_lt_addr h.fr.row).2
  · have := h.fr.body f hf
    have h2 := h.bclear f hf k
    unfold Fm.val at this h2
    rw [e] at this h2
    exact h2 (own_lt_addr this).2
  · subst e; exact (own_lt_addr h.fr.row).1
  · have := h.fr.body f hf
    unfold Fm.val at this
    rw [e] at this
    exact (own_lt_addr this).1
end Go.Proofs.Ytaigdbnfhehclaa
