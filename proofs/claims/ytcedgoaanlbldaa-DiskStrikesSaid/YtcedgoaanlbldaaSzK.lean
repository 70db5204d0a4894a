/-
  What is proved: the contract of append of so many noughts, in names of objects; no program in sight. Condition: the types are as said.
-/
import Derived.Test.YtcedgoaanlbldaaSzJ
namespace Go.Proofs.Ytcedgoaanlbldaa
namespace Sx
open Go.RowKit

section
variable {P : Program}
theorem key_appz {op : Op} {t t2 : TypeId} (ht : @LT.lt Nat _ t2 10000) (h : primKey op = some (primBase + (32 * (t * 10000 + t2) + 22))) : ∃ c, op = .call c ∧ c.callee = .builtin .append ∧ c.argTypes = #[t, t2] := by
  unfold primKey at h
  repeat' split at h
  all_goals (try (exact absurd h.symm (Option.some_ne_none _)))
  all_goals (rw [Option.some.injEq] at h)
  all_goals (try (exfalso; omega))
  rename_i t' h1 h2 h3 _ t2' h4 h5
  have hlt : @LT.lt Nat _ t2' 10000 := h5.2
  have e1 : @Eq Nat t' t := by omega
  have e2 : @Eq Nat t2' t2 := by omega
  subst e1 e2
  exact ⟨_, rfl, h1, h5.1⟩
theorem zeroCells_one (zc : Value) (n : Nat) : (Builtin.zeroCells #[zc] n).toList = List.replicate n zc := by
  unfold Builtin.zeroCells
  simp only [List.size_toArray, List.length_cons, List.length_nil, Nat.zero_add, Nat.mul_one, Nat.mod_one, Array.toList_map, Array.toList_range]
  apply List.ext_getElem
  · simp
  · intro j h1 h2
    simp
section
variable {t tx ty el : TypeId} {i : TypeInfo} {z zc : Value} {k : IntKind} {w : World} {n : Nat}
theorem zeros_room (ht : P.underlying t = some (.slice el)) (hk : P.underlying tx = some (.int k)) (hi : P.info? el = some i) (hz : i.zero = some z) (hs : i.size = 1) (hzc : z.cells = #[zc]) (h1 : zc.oneCell' = true) {b off sLen sCap : Nat}
    (hn : n ≤ 9223372036854775807) (hby : n * i.bytes ≤ 281474976710656) (hroom : sLen + n ≤ sCap) (hc : ∀ j, j < n → (w.cell? ⟨b, off + sLen + j, none⟩).isSome = true) (hf : ∀ j, j < n → w.frozen? ⟨b, off + sLen + j, none⟩ = false) :
    (Builtin.append_ #[t, tx] ty #[.slice (some ⟨b, off, none⟩) sLen sCap, .int .i64 n]).run P w = .ok (.slice (some ⟨b, off, none⟩) (sLen + n) sCap) (w.setCells b (off + sLen) (List.replicate n zc)) := by
  have hw : IntKind.i64.wrap (n : Int) = n := by rw [IntKind.wrap_i64]; omega
  have hneg : ¬ ((n : Int) < 0) := by omega
  have h48 : ¬ (281474976710656 < (n : Int) * (i.bytes : Int)) := by rw [← Int.natCast_mul]; omega
  have hst := run_storeCells_cells (P := P) b (off + sLen) (List.replicate n zc) 0 w (by simpa using hc) (by simpa using hf) (fun u hu => by rw [List.eq_of_mem_replicate hu]; exact h1)
  simp only [Nat.add_zero] at hst
  by_cases h0 : n = 0
  · subst h0
    have hw0 : IntKind.i64.wrap 0 = 0 := by decide
    simp only [List.replicate_zero] at hst ⊢
    simp [Builtin.append_, run_underlying ht, run_underlying hk, sizeOf, typeInfo, hi, asInt, asIntOf, hw0, show sLen ≤ sCap by omega, Addr.add_lit, hs, hst]
  · simp [Builtin.append_, run_underlying ht, run_underlying hk, sizeOf, typeInfo, zeroValue, hi, hz, asInt, asIntOf, hw, hneg, h48, hroom, Addr.add_lit, hs, hzc, zeroCells_one, hst, h0]
theorem zeros_none (ht : P.underlying t = some (.slice el)) (hk : P.underlying tx = some (.int k)) (hi : P.info? el = some i) {ba : Option Addr} {sLen sCap : Nat} (h : sLen ≤ sCap) :
    (Builtin.append_ #[t, tx] ty #[.slice ba sLen sCap, .int .i64 (0 : Nat)]).run P w = .ok (.slice ba sLen sCap) w := by
  have hw0 : IntKind.i64.wrap 0 = 0 := by decide
  have hst : ∀ a : Addr, (storeCells a []).run P w = .ok () w := fun a => rfl
  cases ba <;> simp [Builtin.append_, run_underlying ht, run_underlying hk, sizeOf, typeInfo, hi, asInt, asIntOf, hw0, h, hst]
theorem zeros_grow (ht : P.underlying t = some (.slice el)) (hk : P.underlying tx = some (.int k)) (hi : P.info? el = some i) (hz : i.zero = some z) (hs : i.size = 1) (hzc : z.cells = #[zc]) {ba : Option Addr} {sLen sCap : Nat} {olds : List Value}
    (hold : (Builtin.firstCells i.size sLen (.slice ba sLen sCap)).run P w.drew = .ok olds.toArray w.drew) (hn : n ≤ 9223372036854775807) (hby : n * i.bytes ≤ 281474976710656)
    (hg : sCap < sLen + n) (h63 : ((sLen + n : Nat) : Int) ≤ 9223372036854775807) (hfit : Builtin.nextslicecap (sLen + n) sCap * i.bytes ≤ 281474976710656) (h0 : n ≠ 0) :
    (Builtin.append_ #[t, tx] ty #[.slice ba sLen sCap, .int .i64 n]).run P w =
      .ok (.slice (some ⟨w.heap.size, 0, none⟩) (sLen + n) (grownCap w (sLen + n) sCap el))
        (w.drew.alloc (.cells ((olds ++ List.replicate n zc).toArray ++ Builtin.zeroCells z.cells (grownCap w (sLen + n) sCap el - (sLen + n))) el)) := by
  have hw : IntKind.i64.wrap (n : Int) = n := by rw [IntKind.wrap_i64]; omega
  have hneg : ¬ ((n : Int) < 0) := by omega
  have h48 : ¬ (281474976710656 < (n : Int) * (i.bytes : Int)) := by rw [← Int.natCast_mul]; omega
  have hn' : ¬ (sLen + n ≤ sCap) := by omega
  have h63' : ¬ (9223372036854775807 < ((sLen : Int) + (n : Int))) := by omega
  have h48' : ¬ (281474976710656 < Builtin.nextslicecap (sLen + n) sCap * i.bytes) := by omega
  have hzz : Builtin.zeroCells #[zc] n = (List.replicate n zc).toArray := by rw [← Array.toList_inj, zeroCells_one]
  rw [hs] at hold
  simp [Builtin.append_, run_underlying ht, run_underlying hk, sizeOf, typeInfo, zeroValue, hi, hz, asInt, asIntOf, hw, hneg, h48, hn', h63', h48', Question.forced, hs, hold, h0, hzc, newRow, grownCap, hzz]
  congr 2
  apply Array.ext'
  simp
end
def appzC (t t2 : TypeId) : Con := ⟨primBase + (32 * (t * 10000 + t2) + 22), [], fun b => (E.hnd 0).shift b, 2, 0, 2⟩
def appzR (zc : Value) (by_ : Nat) (G : List Ob) (l : List Value) (e : Env) : Prop := ∃ dv len n xs, l = [dv, .int .i64 (n : Nat)] ∧ len + n ≤ 9223372036854775807 ∧ (len + n) * by_ ≤ 140737488355328 ∧
  ((n = 0 ∧ Sl G dv 1 len xs ∧ e.v 0 = dv ∧ e.g gv = encG G) ∨ (0 < n ∧ Dst G dv 1 len xs ∧ e.v 0 = tok G.length ∧ ∃ fz, e.g gv = encG (killV G dv ++ [mkRow fz 1 (len + n) (xs ++ List.replicate n zc)])))
theorem appz_holds {t t2 el : TypeId} {i : TypeInfo} {z zc : Value} {k : IntKind} (hu : P.underlying t = some (.slice el)) (hk : P.underlying t2 = some (.int k)) (ht2 : @LT.lt Nat _ t2 10000) (hi : P.info? el = some i) (hs : i.size = 1) (hz : i.zero = some z) (hzc : z.cells = #[zc])
    (h1 : zc.oneCell' = true) (hcc : ∀ h, concE h zc = zc) : (appzC t t2).holds P (conR (appzR zc i.bytes)) := by
  refine turn_holds rfl (Nat.le_add_right _ _) (fun G l e _ hR => ?_) ?_
  · obtain ⟨dv, len, n, xs, rfl, _, _, h⟩ := hR
    rcases h with ⟨_, _, _, h⟩ | ⟨_, hd, _, fz, h⟩
    · exact ⟨G, h, by unfold extG; rw [if_neg (by decide), if_pos rfl]; exact ⟨Nat.le_refl _, fun _ _ h _ => h⟩⟩
    · refine ⟨_, h, ?_⟩
      unfold extG
      rw [if_neg (by decide), if_pos rfl]
      refine ⟨by rw [List.length_append, killV_length]; omega, fun m o ho hf => ?_⟩
      have hml := (List.getElem?_eq_some_iff.1 ho).1
      rw [List.getElem?_append_left (by rw [killV_length]; exact hml)]
      rcases hd with ⟨rfl, _, _⟩ | ⟨d, rfl, hd⟩
      · exact ho
      · rw [killV_tok, List.getElem?_set_ne]
        · exact ho
        · rintro rfl
          rw [hd] at ho
          cases ho
          cases hf
  · rintro o hkey a w h F G f l e hargs H ⟨dv, len, n, xs, rfl, h63, hby, hres⟩
    obtain ⟨c, hc, hcal, hty⟩ := key_appz ht2 hkey
    have ha := hargs h fun _ _ => rfl
    have hinv := inv_args hargs
    rw [hc] at ha
    simp only [Op.operands, Call.operands, hcal, Array.empty_append, List.map_cons, List.map_nil] at ha
    have hargsA : c.args.map a.eval = #[concE h dv, .int .i64 (n : Nat)] := by
      have ha : List.map a.eval c.args.toList = [concE h dv, .int .i64 (n : Nat)] := ha
      rw [← Array.toList_inj]; simpa using ha
    have hexec : ∀ r w', (Builtin.append_ #[t, t2] o.type #[concE h dv, .int .i64 (n : Nat)]).run P w = .ok r w' → (execOp a.eval o).run P w = .ok (.value r) w' := fun r w' hr => by
      simp only [hc, execOp, resolve, hcal, hargsA, Sem.run_bind, Sem.run_pure, Result.andThen_ok, invoke, builtin, hty, hr]
    have hrep : (List.replicate n zc).map (concE h) = List.replicate n zc := by rw [List.map_replicate, hcc]
    have hb1 : n * i.bytes ≤ (len + n) * i.bytes := Nat.mul_le_mul_right _ (by omega)
    refine app_core (i := i) (z := z) (xs := xs) (ys := List.replicate n zc) (by omega) (by rw [hzc, hs]; rfl) (fun c hc => by rw [hzc] at hc; simp at hc; subst hc; exact h1) H h63 (by rw [List.length_replicate, hs, Nat.mul_one])
      (fun j cy hj => by
        have := List.mem_of_getElem? hj
        rw [List.eq_of_mem_replicate this]
        exact ⟨h1, Inv.of_const hcc⟩) (hinv dv (by simp)) hexec
      (fun ba dc h0 e2 => by subst h0; exact zeros_none hu hk hi e2)
      (fun b o' dc hroom hc hf => by
        rw [hrep] at hc hf ⊢
        rw [hs, Nat.mul_one] at hc hf ⊢
        rw [List.length_replicate] at hc hf
        exact zeros_room hu hk hi hz hs hzc h1 (by omega) (by omega) hroom hc hf)
      (fun ba dc h0 hold hlt => by
        rw [hrep]
        exact zeros_grow hu hk hi hz hs hzc hold (by omega) (by omega) hlt (by omega) (growslice_fits (by omega) hby) h0) (by rw [hs]; exact hres)
end
end Sx
end Go.Proofs.Ytcedgoaanlbldaa
