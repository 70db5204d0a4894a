/- What is proved: the contracts of SameBytes and Great. No condition. -/
import Derived.Test.YteklnfajpignoaaK1
import Derived.Test.YteklnfajpignoaaT2
namespace Go.Proofs.Yteklnfajpignoaa
open Sx hiding Sl
set_option maxRecDepth 100000

def sameR (G : List Ob) (l : List Value) (e : Env) : Prop := ∃ (v1 v2 : Value) (a b : List Int), l = [v1, v2] ∧ Sx.Sl G v1 1 a.length (a.map (Value.int .u8)) ∧ Sx.Sl G v2 1 b.length (b.map (Value.int .u8)) ∧ a.length ≤ 1000000 ∧ e.b 0 = decide (a = b) ∧ e.g gv = encG G
def sameC : Con := { mkCon 36 [] (.bool (.var 0)) 2 with wr := 1 }
def saInv (a b : List Int) (nv : Nat) (ρ : Env) : Prop := ∃ k : Nat, ρ.i nv = k ∧ k ≤ a.length ∧ ∀ j, j < k → a[j]? = b[j]?
def saLQ (a b : List Int) : LoopS := ⟨fun _ nv ρ => saInv a b nv ρ, fun _ nv ρ => (a.length - ρ.i nv).toNat⟩
def treeSame : Tree :=
 (.call 1 2200 [(.hnd 0), (.var 199)]
 (.call 1 4200 [(.hnd 1), (.var 199)]
 (.split (.cmp .eql (.var 2200) (.var 4200))
 (.loop 4 7200 [(7200, (.int .i64 (.lit 0)))]
 (.call 1 10200 [(.hnd 0), (.var 199)]
 (.split (.cmp .lss (.var 7200) (.var 10200))
 (.call 2 14200 [(.hnd 0), (.int .i64 (.var 7200)), (.var 199)]
 (.call 0 15200 [(.pla (.var 14200) (.var 14201) 0), (.var 199)]
 (.call 2 18200 [(.hnd 1), (.int .i64 (.var 7200)), (.var 199)]
 (.call 0 19200 [(.pla (.var 18200) (.var 18201) 0), (.var 199)]
 (.split (.cmp .eql (.var 15200) (.var 19200))
 (.again 4 7200 [(7200, (.int .i64 (.bin .add .i64 (.var 7200) (.lit 1))))])
 (leafG (.bool (.lit false)) .nil 199))))))
 (leafG (.bool (.lit true)) .nil 199))))
 (leafG (.bool (.lit false)) .nil 199))))
theorem same_holds : sameC.holds Try.prog (conR sameR) := by
  refine wr_of 1 (c := mkCon 36 [] (.bool (.var 0)) 2) (con_of_runG (cs := kp) (S := kpS) (LT := [(4, ⟨[(5, fun b => .int .i64 (.var b))], [], [], false⟩)]) (depth := 0) (fuel := 10) (nv := 200) (av := [.hnd 0, .hnd 1]) (T := treeSame) kp_holds (by kernel_rfl) (by kernel_rfl) (by kernel_rfl) ?_)
    (fun G l e ⟨_, _, _, _, _, _, _, _, _, hG⟩ => ⟨G, hG, ⟨[], by simp⟩⟩)
  rintro G l e0 ⟨v1, v2, a, b, rfl, hv, hw, hbl, q0, hG⟩
  have o1 := hv.one
  have o2 := hw.one
  refine ⟨saLQ a b, (Env.ofL [v1, v2]).st (encG G), by show [v1, v2] = [oneOf v1, oneOf v2]; rw [oneOf_eq o1, oneOf_eq o2], rfl, ?_⟩
  have ret : ∀ (t : Bool) (ρ : Env) (h : Tr (List E)), decide (a = b) = t → ρ.g 199 = encG G → treeSem kpS (saLQ a b) (KF [] (.bool (.var 0)) e0 2) ρ (leafG (.bool (.lit t)) h 199) := fun t ρ h ht hg =>
    sem_retG rfl (by show Value.bool t = Value.bool (e0.b 0); rw [q0, ht]) trivial (by rw [hG, hg])
  refine sem_step G [v1] (Env.ofL [.int .i64 a.length]) rfl (by show [oneOf v1, _] = _; rw [oneOf_eq o1]; rfl) ⟨v1, 1, _, _, rfl, hv, rfl⟩ ?_
  refine sem_step G [v2] (Env.ofL [.int .i64 b.length]) rfl (by show [oneOf v2, _] = _; rw [oneOf_eq o2]; rfl) ⟨v2, 1, _, _, rfl, hw, rfl⟩ ?_
  refine sem_split (fun h => ?_) (fun h => ?_)
  · have hab : ((a.length : Nat) : Int) = (b.length : Nat) := by simpa [C.den, T.den, intCmp, Env.from_, Env.ofL] using h
    refine sem_loop (Env.from_ _ 7200 (Env.ofL [.int .i64 0])) (Env.from_ag _ _ _) rfl ⟨0, rfl, Nat.zero_le _, fun j hj => absurd hj (Nat.not_lt_zero j)⟩ (by kernel_rfl) (fun ρ1 ρ2 h => ?_) (fun ρ hag hinv => ?_)
    · show ((a.length : Int) - ρ2.i 7200).toNat = ((a.length : Int) - ρ1.i 7200).toNat
      rw [(h 7200 (by decide)).1]
    obtain ⟨k, hi, hk, hsame⟩ := hinv
    have hi : ρ.i 7200 = k := hi
    have hg : ρ.g 199 = encG G := Env.ag_g hag (show 199 < 7200 by decide)
    have x0 : ρ.v 0 = v1 := (hag 0 (by decide)).2.2
    have x1 : ρ.v 1 = v2 := (hag 1 (by decide)).2.2
    refine sem_step G [v1] (Env.ofL [.int .i64 a.length]) rfl (by show [oneOf (ρ.v 0), ρ.g 199] = _; rw [x0, hg, oneOf_eq o1]; rfl) ⟨v1, 1, _, _, rfl, hv, rfl⟩ ?_
    refine sem_split (fun h => ?_) (fun h => ?_)
    · have h : ρ.i 7200 < (a.length : Int) := of_decide_eq_true h
      obtain ⟨m, p, all, q1, q2, q3, q4⟩ := sl_at hv Nat.one_pos (i := ρ.i 7200) (by omega) h
      obtain ⟨m', p', all', r1, r2, r3, r4⟩ := sl_at hw Nat.one_pos (i := ρ.i 7200) (by omega) (by omega)
      have q5 := q4 0 Nat.one_pos
      have r5 := r4 0 Nat.one_pos
      have ka : k < a.length := by omega
      have kb : k < b.length := by omega
      rw [hi, Int.toNat_natCast, Nat.mul_one, Nat.add_zero, Nat.add_zero, List.getElem?_map, List.getElem?_eq_getElem ka] at q5
      rw [hi, Int.toNat_natCast, Nat.mul_one, Nat.add_zero, Nat.add_zero, List.getElem?_map, List.getElem?_eq_getElem kb] at r5
      refine sem_step G [v1, .int .i64 (ρ.i 7200)] _ rfl (by show [oneOf (ρ.v 0), Value.int .i64 (ρ.i 7200), ρ.g 199] = _; rw [x0, hg, oneOf_eq o1]; rfl) q1 ?_
      refine sem_step G [tokAt m p] (Env.ofL [.int .u8 a[k]]) rfl (by show [tokAt m (p + 0), ρ.g 199] = _; rw [hg]; rfl) ⟨m, p, all, _, rfl, q2, q5, rfl⟩ ?_
      refine sem_step G [v2, .int .i64 (ρ.i 7200)] _ rfl (by show [oneOf (ρ.v 1), Value.int .i64 (ρ.i 7200), ρ.g 199] = _; rw [x1, hg, oneOf_eq o2]; rfl) r1 ?_
      refine sem_step G [tokAt m' p'] (Env.ofL [.int .u8 b[k]]) rfl (by show [tokAt m' (p' + 0), ρ.g 199] = _; rw [hg]; rfl) ⟨m', p', all', _, rfl, r2, r5, rfl⟩ ?_
      refine sem_split (fun h => ?_) (fun h => ?_)
      · have h : (a[k] == b[k]) = true := h
        have h : a[k] = b[k] := by simpa using h
        have hw' := wrap_up' (i := ρ.i 7200) (by omega) (by omega)
        refine sem_again (Env.from_ _ 7200 (Env.ofL [.int .i64 (ρ.i 7200 + 1)])) (Env.from_ag _ _ _) ?_ ⟨k + 1, ?_, by omega, fun j hj => ?_⟩ ?_
        · show [Value.int .i64 (ρ.i 7200 + 1)] = [Value.int .i64 (IntKind.i64.wrap (ρ.i 7200 + 1))]
          rw [hw']
        · show ρ.i 7200 + 1 = _
          rw [hi]; rfl
        · by_cases hj' : j < k
          · exact hsame j hj'
          · have : j = k := by omega
            subst this
            rw [List.getElem?_eq_getElem ka, List.getElem?_eq_getElem kb, h]
        · show ((a.length : Int) - (ρ.i 7200 + 1)).toNat < ((a.length : Int) - ρ.i 7200).toNat
          omega
      · have h : (a[k] == b[k]) = false := h
        have h : a[k] ≠ b[k] := by simpa using h
        exact ret false _ _ (decide_eq_false fun e => h (by subst e; rfl)) hg
    · have h : ¬ ρ.i 7200 < (a.length : Int) := of_decide_eq_false h
      refine ret true _ _ (decide_eq_true (List.ext_getElem? fun j => ?_)) hg
      by_cases hj : j < k
      · exact hsame j hj
      · rw [List.getElem?_eq_none (by omega), List.getElem?_eq_none (by omega)]
  · have hab : ¬ ((a.length : Nat) : Int) = (b.length : Nat) := by simpa [C.den, T.den, intCmp, Env.from_, Env.ofL] using h
    exact ret false _ _ (decide_eq_false fun e => hab (by rw [e])) rfl
/-- Great. -/
def greatB (L : List AD) : Bool := decide (200 < L.length) || L.any fun x => decide (500 < x.bs.length)
theorem Acts.sl {G : List Ob} {v : Value} {L : List AD} (h : Acts G v L) : Sx.Sl G v 4 L.length (rowA L) := by
  rcases h.row with ⟨rfl, rfl⟩ | ⟨d, rfl, hd⟩
  · exact .inl ⟨rfl, rfl, rfl⟩
  · exact .inr ⟨d, 0, _, ⟨d, rfl, .inl ⟨_, .inr hd, rfl, rfl⟩⟩, by unfold cellsAt; rw [hd]; rfl, by rw [rowA_length]; omega, by rw [List.drop_zero, List.take_of_length_le (by rw [rowA_length]; exact Nat.le_refl _)]⟩
theorem rowA_at {L : List AD} {k j : Nat} (hk : k < L.length) (hj : j < 4) : (rowA L)[k * 4 + j]? = L[k].cells[j]? := by
  rw [rowA_get, show (k * 4 + j) / 4 = k by omega, show (k * 4 + j) % 4 = j by omega, List.getElem?_eq_getElem hk]
  rfl
def greatR (G : List Ob) (l : List Value) (e : Env) : Prop := ∃ v L, l = [v] ∧ Acts G v L ∧ e.b 0 = greatB L ∧ e.g gv = encG G
def greatC : Con := { mkCon 9 [] (.bool (.var 0)) 2 with wr := 1 }
def gp : List Con := [loadC 30 (.hnd 0), lenC 22, lenC 30, idxC 22]
def gpS : List ConS := [conR (loadR (.hnd 0)), conR lenR, conR lenR, conR (idxR 4)]
theorem gp_holds : Cons Try.prog gp gpS := ⟨load_holds (by kernel_rfl) rfl, len_holds Try.underlying22, len_holds Try.underlying30, idx_holds Try.underlying22 (by kernel_rfl), trivial⟩
def grInv (L : List AD) (nv : Nat) (ρ : Env) : Prop := ∃ k : Nat, ρ.i nv = k ∧ k ≤ L.length ∧ ∀ (j : Nat) x, j < k → L[j]? = some x → x.bs.length ≤ 500
def grLQ (L : List AD) : LoopS := ⟨fun _ nv ρ => grInv L nv ρ, fun _ nv ρ => (L.length - ρ.i nv).toNat⟩
def treeGreat : Tree :=
 (.call 1 2200 [(.hnd 0), (.var 199)]
 (.split (.cmp .gtr (.var 2200) (.lit 200))
 (leafG (.bool (.lit true)) .nil 199)
 (.loop 4 5200 [(5200, (.int .i64 (.lit 0)))]
 (.call 1 8200 [(.hnd 0), (.var 199)]
 (.split (.cmp .lss (.var 5200) (.var 8200))
 (.call 3 12200 [(.hnd 0), (.int .i64 (.var 5200)), (.var 199)]
 (.call 0 14200 [(.pla (.var 12200) (.var 12201) 3), (.var 199)]
 (.call 2 15200 [(.hnd 14200), (.var 199)]
 (.split (.cmp .gtr (.var 15200) (.lit 500))
 (leafG (.bool (.lit true)) .nil 199)
 (.again 4 5200 [(5200, (.int .i64 (.bin .add .i64 (.var 5200) (.lit 1))))])))))
 (leafG (.bool (.lit false)) .nil 199))))))
theorem great_holds : greatC.holds Try.prog (conR greatR) := by
  refine wr_of 1 (c := mkCon 9 [] (.bool (.var 0)) 2) (con_of_runG (cs := gp) (S := gpS) (LT := [(4, ⟨[(3, fun b => .int .i64 (.var b))], [], [], false⟩)]) (depth := 0) (fuel := 10) (nv := 200) (av := [.hnd 0]) (T := treeGreat) gp_holds (by kernel_rfl) (by kernel_rfl) (by kernel_rfl) ?_)
    (fun G l e ⟨_, _, _, _, _, hG⟩ => ⟨G, hG, ⟨[], by simp⟩⟩)
  rintro G l e0 ⟨v, L, rfl, hA, q0, hG⟩
  have hv := hA.sl
  have o1 := hv.one
  refine ⟨grLQ L, (Env.ofL [v]).st (encG G), by show [v] = [oneOf v]; rw [oneOf_eq o1], rfl, ?_⟩
  have ret : ∀ (t : Bool) (ρ : Env) (h : Tr (List E)), greatB L = t → ρ.g 199 = encG G → treeSem gpS (grLQ L) (KF [] (.bool (.var 0)) e0 2) ρ (leafG (.bool (.lit t)) h 199) := fun t ρ h ht hg =>
    sem_retG rfl (by show Value.bool t = Value.bool (e0.b 0); rw [q0, ht]) trivial (by rw [hG, hg])
  refine sem_step G [v] (Env.ofL [.int .i64 L.length]) rfl (by show [oneOf v, _] = _; rw [oneOf_eq o1]; rfl) ⟨v, 4, _, _, rfl, hv, rfl⟩ ?_
  refine sem_split (fun h => ?_) (fun h => ?_)
  · have h : ((L.length : Nat) : Int) > 200 := of_decide_eq_true h
    exact ret true _ _ (by unfold greatB; rw [decide_eq_true (by omega)]; rfl) rfl
  · have h200 : ¬ ((L.length : Nat) : Int) > 200 := of_decide_eq_false h
    refine sem_loop (Env.from_ _ 5200 (Env.ofL [.int .i64 0])) (Env.from_ag _ _ _) rfl ⟨0, rfl, Nat.zero_le _, fun j _ hj => absurd hj (Nat.not_lt_zero j)⟩ (by kernel_rfl) (fun ρ1 ρ2 h => ?_) (fun ρ hag hinv => ?_)
    · show ((L.length : Int) - ρ2.i 5200).toNat = ((L.length : Int) - ρ1.i 5200).toNat
      rw [(h 5200 (by decide)).1]
    obtain ⟨k, hi, hk, hsmall⟩ := hinv
    have hi : ρ.i 5200 = k := hi
    have hg : ρ.g 199 = encG G := Env.ag_g hag (show 199 < 5200 by decide)
    have x0 : ρ.v 0 = v := (hag 0 (by decide)).2.2
    refine sem_step G [v] (Env.ofL [.int .i64 L.length]) rfl (by show [oneOf (ρ.v 0), ρ.g 199] = _; rw [x0, hg, oneOf_eq o1]; rfl) ⟨v, 4, _, _, rfl, hv, rfl⟩ ?_
    refine sem_split (fun h => ?_) (fun h => ?_)
    · have h : ρ.i 5200 < (L.length : Int) := of_decide_eq_true h
      have ka : k < L.length := by omega
      obtain ⟨m, p, all, q1, q2, q3, q4⟩ := sl_at hv (by decide) (i := ρ.i 5200) (by omega) h
      have q5 := q4 3 (by decide)
      rw [hi, Int.toNat_natCast, rowA_at ka (by decide)] at q5
      have hb := (hA.body L[k] (List.getElem_mem _)).1
      refine sem_step G [v, .int .i64 (ρ.i 5200)] _ rfl (by show [oneOf (ρ.v 0), Value.int .i64 (ρ.i 5200), ρ.g 199] = _; rw [x0, hg, oneOf_eq o1]; rfl) q1 ?_
      refine sem_step G [tokAt m (p + 3)] (Env.ofL [L[k].v]) rfl (by show [tokAt m (p + 3), ρ.g 199] = _; rw [hg]; rfl) ⟨m, p + 3, all, L[k].v, rfl, q2, q5, hnd_nam rfl hb.one⟩ ?_
      refine sem_step G [L[k].v] (Env.ofL [.int .i64 L[k].bs.length]) rfl (by show [oneOf (L[k].v), ρ.g 199] = _; rw [hg, oneOf_eq hb.one]; rfl) ⟨L[k].v, 1, _, _, rfl, hb.sl, rfl⟩ ?_
      refine sem_split (fun h => ?_) (fun h => ?_)
      · have h : ((L[k].bs.length : Nat) : Int) > 500 := of_decide_eq_true h
        refine ret true _ _ ?_ hg
        unfold greatB
        rw [List.any_eq_true.2 ⟨L[k], List.getElem_mem _, decide_eq_true (by omega)⟩, Bool.or_true]
      · have h5 : ¬ ((L[k].bs.length : Nat) : Int) > 500 := of_decide_eq_false h
        have hw' := wrap_up' (i := ρ.i 5200) (by omega) (by omega)
        refine sem_again (Env.from_ _ 5200 (Env.ofL [.int .i64 (ρ.i 5200 + 1)])) (Env.from_ag _ _ _) ?_ ⟨k + 1, ?_, by omega, fun j x hj hx => ?_⟩ ?_
        · show [Value.int .i64 (ρ.i 5200 + 1)] = [Value.int .i64 (IntKind.i64.wrap (ρ.i 5200 + 1))]
          rw [hw']
        · show ρ.i 5200 + 1 = _
          rw [hi]; rfl
        · by_cases hj' : j < k
          · exact hsmall j x hj' hx
          · have : j = k := by omega
            subst this
            rw [List.getElem?_eq_getElem ka] at hx
            cases hx
            omega
        · show ((L.length : Int) - (ρ.i 5200 + 1)).toNat < ((L.length : Int) - ρ.i 5200).toNat
          omega
    · have h : ¬ ρ.i 5200 < (L.length : Int) := of_decide_eq_false h
      refine ret false _ _ ?_ hg
      unfold greatB
      rw [decide_eq_false (by omega), Bool.false_or, List.any_eq_false]
      intro x hx
      obtain ⟨j, hj⟩ := List.getElem?_of_mem hx
      have := hsmall j x (by have := (List.getElem?_eq_some_iff.1 hj).1; omega) hj
      simp; omega
end Go.Proofs.Yteklnfajpignoaa
