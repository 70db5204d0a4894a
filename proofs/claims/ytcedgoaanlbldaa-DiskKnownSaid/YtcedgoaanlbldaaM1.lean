/- What is proved: contracts of CopyInts and SameInts. No condition but those each law names. Printed by mk_M.py. -/
import Derived.Test.YtcedgoaanlbldaaA1
namespace Go.Proofs.Ytcedgoaanlbldaa
open Sx
set_option maxRecDepth 100000

/-- A literal of one byte. -/
def litGI (G : List Ob) (c : Int) : List Ob := G ++ [.row 1 1 [.int .i64 c]]
theorem lit_getI (G : List Ob) (c : Int) : (litGI G c)[G.length]? = some (.row 1 1 [.int .i64 c]) := by unfold litGI; rw [List.getElem?_append_right (Nat.le_refl _), Nat.sub_self]; rfl
theorem lit_slI (G : List Ob) (c : Int) : Sl (litGI G c) (tok G.length) 1 [c].length ([c].map (Value.int .i64)) := dst_sl (.inr ⟨_, rfl, lit_getI G c⟩) rfl
theorem lit_bsI (G : List Ob) (c : Int) : bsR 1 1 G [.int .i64 c] ((Env.ofL [tok G.length]).ans (encG (litGI G c))) :=
  ⟨false, [.int .i64 c], rfl, rfl, fun v hv => by
    have : v = .int .i64 c := by simpa using hv
    subst this
    exact ⟨rfl, fun d hd => (by
      have : d = .int .i64 c := by simpa [Value.cells] using hd
      subst this; rfl), fun cs e => (by cases e)⟩, rfl, rfl⟩
/-- CopyBytes. -/
def cpSI : List Ob → Value → List Int → List Int → List Ob × Value
  | G, v, _, [] => (G, v)
  | G, v, xs, c :: r => cpSI (killV (litGI G c) v ++ [.row 1 (xs.length + 1) ((xs ++ [c]).map (Value.int .i64))]) (tok (litGI G c).length) (xs ++ [c]) r
def cpGI (G : List Ob) (bs : List Int) : List Ob := (cpSI G (.slice none 0 0) [] bs).1
def cpVI (G : List Ob) (bs : List Int) : Value := (cpSI G (.slice none 0 0) [] bs).2
/-- What holds in the midst of it. -/
structure CpAtI (G Gj : List Ob) (v : Value) (xs : List Int) : Prop where
  dst : Dst Gj v 1 xs.length (xs.map (Value.int .i64))
  keep : ∀ (n : Nat) o, G[n]? = some o → Gj[n]? = some o
  new : ∀ d, v = tok d → G.length ≤ d
  len : G.length ≤ Gj.length
theorem CpAtI.start (G : List Ob) : CpAtI G G (.slice none 0 0) [] := ⟨.inl ⟨rfl, rfl, rfl⟩, fun _ _ h => h, fun d h => (by cases h), Nat.le_refl _⟩
theorem CpAtI.next {G Gj : List Ob} {v : Value} {xs : List Int} (h : CpAtI G Gj v xs) (c : Int) : CpAtI G (killV (litGI Gj c) v ++ [.row 1 (xs.length + 1) ((xs ++ [c]).map (Value.int .i64))]) (tok (litGI Gj c).length) (xs ++ [c]) := by
  have hlen : (litGI Gj c).length = Gj.length + 1 := by simp [litGI]
  have hl := h.len
  refine ⟨.inr ⟨_, rfl, ?_⟩, fun n o ho => ?_, fun d hd => ?_, ?_⟩
  · rw [List.getElem?_append_right (by rw [killV_length]; exact Nat.le_refl _), killV_length, Nat.sub_self, List.length_append]
    rfl
  · have hn := (List.getElem?_eq_some_iff.1 ho).1
    rw [List.getElem?_append_left (by rw [killV_length]; omega)]
    have h2 : (litGI Gj c)[n]? = some o := by unfold litGI; rw [List.getElem?_append_left (by omega)]; exact h.keep n o ho
    rcases h.dst with ⟨rfl, _⟩ | ⟨d, rfl, _⟩
    · exact h2
    · have := h.new d rfl
      rw [killV_tok, List.getElem?_set_ne (by omega)]
      exact h2
  · have hd : (litGI Gj c).length = d := by simpa [tok] using hd
    omega
  · rw [List.length_append, killV_length]
    omega
theorem cpS_atI {G : List Ob} (r : List Int) : ∀ {Gj : List Ob} {v : Value} {xs : List Int}, CpAtI G Gj v xs → CpAtI G (cpSI Gj v xs r).1 (cpSI Gj v xs r).2 (xs ++ r) := by
  induction r with
  | nil => intro Gj v xs h; rw [List.append_nil]; exact h
  | cons c r ih =>
    intro Gj v xs h
    have := ih (h.next c)
    rw [List.append_assoc] at this
    exact this
theorem cp_atI (G : List Ob) (bs : List Int) : CpAtI G (cpGI G bs) (cpVI G bs) bs := cpS_atI bs (CpAtI.start G)
def copyRI (G : List Ob) (l : List Value) (e : Env) : Prop := ∃ v bs, l = [v] ∧ Sl G v 1 bs.length (bs.map (Value.int .i64)) ∧ bs.length ≤ 1000000 ∧ e.v 0 = cpVI G bs ∧ e.g gv = encG (cpGI G bs)
def copyCI : Con := mkCon 50 [] (.hnd 0) 2
def kpI : List Con := [loadC 3 (.int .i64 (.var 0)), lenC 23, idxC 23, bsC 23 1, appC 23, storeC 3]
def kpSI : List ConS := [conR (loadR (.int .i64 (.var 0))), conR lenR, conR (idxR 1), conR (bsR 1 1), conR (appR 1 8), conR (storeR 1)]
theorem kp_holdsI : Cons Try.prog kpI kpSI :=
  ⟨load_holds (by kernel_rfl) rfl, len_holds Try.underlying23, idx_holds Try.underlying23 (by kernel_rfl), bs_ok (b := 8) (z := .int .i64 0) Try.underlying23 (by kernel_rfl) rfl, app_ok (z := .int .i64 0) Try.underlying23 (by kernel_rfl) rfl, store_holds (by kernel_rfl), trivial⟩
def cpInvI (G : List Ob) (bs : List Int) (nv : Nat) (ρ : Env) : Prop := ∃ Gj xs r, ρ.g (nv + 999) = encG Gj ∧ ρ.i (nv + 1) = (xs.length : Nat) ∧ bs = xs ++ r ∧ CpAtI G Gj (ρ.v nv) xs ∧ cpSI G (.slice none 0 0) [] bs = cpSI Gj (ρ.v nv) xs r
def cpLQI (G : List Ob) (bs : List Int) : LoopS := ⟨fun _ nv ρ => cpInvI G bs nv ρ, fun _ nv ρ => (bs.length - ρ.i (nv + 1)).toNat⟩
def treeCopyI : Tree :=
 (.loop 3 3200 [(3200, (.lit (.slice none 0 0))), (3201, (.int .i64 (.lit 0))), (4199, (.var 199))]
 (.call 1 6200 [(.hnd 0), (.var 4199)]
 (.split (.cmp .lss (.var 3201) (.var 6200))
 (.call 2 11200 [(.hnd 0), (.int .i64 (.var 3201)), (.var 4199)]
 (.call 0 12200 [(.pla (.var 11200) (.var 11201) 0), (.var 4199)]
 (.call 3 13200 [(.int .i64 (.var 12200)), (.var 4199)]
 (.call 4 14200 [(.hnd 3200), (.hnd 13200), (.var 14199)]
 (.again 3 3200 [(3200, (.hnd 14200)), (3201, (.int .i64 (.bin .add .i64 (.var 3201) (.lit 1)))), (4199, (.var 15199))])))))
 (leafG (.hnd 3200) .nil 4199))))
theorem copy_holdsI : copyCI.holds Try.prog (conR copyRI) := by
  refine con_of_runG (cs := kpI) (S := kpSI) (LT := [(3, ⟨[(3, fun b => .hnd b), (4, fun b => .int .i64 (.var (b + 1)))], [], [], true⟩)]) (depth := 0) (fuel := 10) (nv := 200) (av := [.hnd 0]) (T := treeCopyI) kp_holdsI (by kernel_rfl) (by kernel_rfl) (by kernel_rfl) ?_
  rintro G l e0 ⟨v, bs, rfl, hv, hbl, q0, hG⟩
  have hv1 := hv.one
  refine ⟨cpLQI G bs, (Env.ofL [v]).st (encG G), by show [v] = [oneOf v]; rw [oneOf_eq hv1], rfl, ?_⟩
  refine sem_loop (Env.from_ _ 3200 ((Env.ofL [.slice none 0 0, .int .i64 0]).ans (encG G))) (Env.from_ag _ _ _) rfl ⟨G, [], bs, rfl, rfl, rfl, CpAtI.start G, rfl⟩ (by kernel_rfl) (fun ρ1 ρ2 h => ?_) (fun ρ hag hinv => ?_)
  · show ((bs.length : Int) - ρ2.i 3201).toNat = ((bs.length : Int) - ρ1.i 3201).toNat
    rw [(h 3201 (by decide)).1]
  obtain ⟨Gj, xs, r, hg, hi, hbs, hat, hcp⟩ := hinv
  have hg : ρ.g 4199 = encG Gj := hg
  have hi : ρ.i 3201 = (xs.length : Nat) := hi
  have hx : ρ.v 0 = v := (hag 0 (by decide)).2.2
  have hd1 := hat.dst.one
  have hsj := sl_keep hat.keep hv
  refine sem_step Gj [v] (Env.ofL [.int .i64 bs.length]) rfl (by show [oneOf (ρ.v 0), ρ.g 4199] = _; rw [hx, hg, oneOf_eq hv1]; rfl) ⟨v, 1, _, _, rfl, hsj, rfl⟩ ?_
  refine sem_split (fun h => ?_) (fun h => ?_)
  · have h : ρ.i 3201 < (bs.length : Int) := of_decide_eq_true h
    obtain ⟨c, r', rfl⟩ : ∃ c r', r = c :: r' := by
      cases r with
      | nil => rw [hbs, List.append_nil] at h; omega
      | cons c r' => exact ⟨c, r', rfl⟩
    obtain ⟨m, p, all, q1, q2, q3, q4⟩ := sl_at hsj Nat.one_pos (i := ρ.i 3201) (by omega) h
    have q5 := q4 0 Nat.one_pos
    rw [hi, Int.toNat_natCast, Nat.mul_one, Nat.add_zero, Nat.add_zero, List.getElem?_map, hbs, List.getElem?_append_right (Nat.le_refl _), Nat.sub_self] at q5
    refine sem_step Gj [v, .int .i64 (ρ.i 3201)] _ rfl (by show [oneOf (ρ.v 0), Value.int .i64 (ρ.i 3201), ρ.g 4199] = _; rw [hx, hg, oneOf_eq hv1]; rfl) q1 ?_
    refine sem_step Gj [tokAt m p] (Env.ofL [.int .i64 c]) rfl (by show [tokAt m (p + 0), ρ.g 4199] = _; rw [hg]; rfl) ⟨m, p, all, .int .i64 c, rfl, q2, q5, rfl⟩ ?_
    refine sem_step Gj [.int .i64 c] _ rfl (by show [Value.int .i64 c, ρ.g 4199] = _; rw [hg]; rfl) (lit_bsI _ _) ?_
    refine sem_step (litGI Gj c) [ρ.v 3200, tok Gj.length] ((Env.ofL [tok (litGI Gj c).length]).ans (encG (killV (litGI Gj c) (ρ.v 3200) ++ [.row 1 (xs.length + 1) ((xs ++ [c]).map (Value.int .i64))]))) rfl (by show [oneOf (ρ.v 3200), _, _] = _; rw [oneOf_eq hd1]; rfl)
      ⟨ρ.v 3200, tok Gj.length, xs.length, 1, xs.map (Value.int .i64), [.int .i64 c], rfl, lit_slI Gj c, ?_, ?_, .inr ⟨Nat.one_pos, Dst.append hat.dst, rfl, false, ?_⟩⟩ ?_
    · rw [hbs] at hbl; simp at hbl; omega
    · rw [hbs] at hbl; simp at hbl; omega
    · rw [List.map_append]; rfl
    have hw := wrap_up' (i := ρ.i 3201) (by omega) (by omega)
    refine sem_again (Env.from_ _ 3200 ((Env.ofL [tok (litGI Gj c).length, .int .i64 (ρ.i 3201 + 1)]).ans (encG (killV (litGI Gj c) (ρ.v 3200) ++ [.row 1 (xs.length + 1) ((xs ++ [c]).map (Value.int .i64))])))) (Env.from_ag _ _ _) ?_ ⟨_, xs ++ [c], r', rfl, ?_, by rw [hbs]; simp, hat.next c, hcp⟩ ?_
    · show [tok (litGI Gj c).length, Value.int .i64 (ρ.i 3201 + 1), _] = [_, Value.int .i64 (IntKind.i64.wrap (ρ.i 3201 + 1)), _]
      rw [hw]
      rfl
    · show ρ.i 3201 + 1 = _
      rw [hi]; simp
    · show ((bs.length : Int) - (ρ.i 3201 + 1)).toNat < ((bs.length : Int) - ρ.i 3201).toNat
      omega
  · have h : ¬ ρ.i 3201 < (bs.length : Int) := of_decide_eq_false h
    obtain rfl : r = [] := by
      cases r with
      | nil => rfl
      | cons c r' => rw [hbs] at h; simp at h; omega
    refine sem_retG rfl ?_ trivial ?_
    · show oneOf (ρ.v 3200) = oneOf (e0.v 0)
      rw [q0]
      unfold cpVI
      rw [hcp]
      rfl
    · rw [hG]
      unfold cpGI
      rw [hcp]
      exact hg
def sameRI (G : List Ob) (l : List Value) (e : Env) : Prop := ∃ (v1 v2 : Value) (a b : List Int), l = [v1, v2] ∧ Sl G v1 1 a.length (a.map (Value.int .i64)) ∧ Sl G v2 1 b.length (b.map (Value.int .i64)) ∧ a.length ≤ 1000000 ∧ e.b 0 = decide (a = b) ∧ e.g gv = encG G
def sameCI : Con := { mkCon 54 [] (.bool (.var 0)) 2 with wr := 1 }
def saInvI (a b : List Int) (nv : Nat) (ρ : Env) : Prop := ∃ k : Nat, ρ.i nv = k ∧ k ≤ a.length ∧ ∀ j, j < k → a[j]? = b[j]?
def saLQI (a b : List Int) : LoopS := ⟨fun _ nv ρ => saInvI a b nv ρ, fun _ nv ρ => (a.length - ρ.i nv).toNat⟩
def treeSameI : Tree :=
 (.call 1 2200 [(.hnd 0), (.var 199)]
 (.call 1 4200 [(.hnd 1), (.var 199)]
 (.split (.cmp .eql (.var 2200) (.var 4200))
 (.loop 4 7200 [(7200, (.int .i64 (.lit 0)))]
 (.call 1 10200 [(.hnd 0), (.var 199)]
 (.split (.cmp .lss (.var 7200) (.var 10200))
 (.call 2 14200 [(.hnd 0), (.int .i64 (.var 7200)), (.var 199)]
 (.call 0 15200 [(.pla (.var 14200) (.var 14201) 0), (.var 199)]
 (.call 2 18200 [(.hnd 1), (.int .i64 (.var 7200)), (.var 199)]
 (.call 0 19200 [(.pla (.var 18200) (.var 18201) 0), (.var 199)]
 (.split (.cmp .eql (.var 15200) (.var 19200))
 (.again 4 7200 [(7200, (.int .i64 (.bin .add .i64 (.var 7200) (.lit 1))))])
 (leafG (.bool (.lit false)) .nil 199))))))
 (leafG (.bool (.lit true)) .nil 199))))
 (leafG (.bool (.lit false)) .nil 199))))
theorem same_holdsI : sameCI.holds Try.prog (conR sameRI) := by
  refine wr_of 1 (c := mkCon 54 [] (.bool (.var 0)) 2) (con_of_runG (cs := kpI) (S := kpSI) (LT := [(4, ⟨[(5, fun b => .int .i64 (.var b))], [], [], false⟩)]) (depth := 0) (fuel := 10) (nv := 200) (av := [.hnd 0, .hnd 1]) (T := treeSameI) kp_holdsI (by kernel_rfl) (by kernel_rfl) (by kernel_rfl) ?_)
    (fun G l e ⟨_, _, _, _, _, _, _, _, _, hG⟩ => ⟨G, hG, ⟨[], by simp⟩⟩)
  rintro G l e0 ⟨v1, v2, a, b, rfl, hv, hw, hbl, q0, hG⟩
  have o1 := hv.one
  have o2 := hw.one
  refine ⟨saLQI a b, (Env.ofL [v1, v2]).st (encG G), by show [v1, v2] = [oneOf v1, oneOf v2]; rw [oneOf_eq o1, oneOf_eq o2], rfl, ?_⟩
  have ret : ∀ (t : Bool) (ρ : Env) (h : Tr (List E)), decide (a = b) = t → ρ.g 199 = encG G → treeSem kpSI (saLQI a b) (KF [] (.bool (.var 0)) e0 2) ρ (leafG (.bool (.lit t)) h 199) := fun t ρ h ht hg =>
    sem_retG rfl (by show Value.bool t = Value.bool (e0.b 0); rw [q0, ht]) trivial (by rw [hG, hg])
  refine sem_step G [v1] (Env.ofL [.int .i64 a.length]) rfl (by show [oneOf v1, _] = _; rw [oneOf_eq o1]; rfl) ⟨v1, 1, _, _, rfl, hv, rfl⟩ ?_
  refine sem_step G [v2] (Env.ofL [.int .i64 b.length]) rfl (by show [oneOf v2, _] = _; rw [oneOf_eq o2]; rfl) ⟨v2, 1, _, _, rfl, hw, rfl⟩ ?_
  refine sem_split (fun h => ?_) (fun h => ?_)
  · have hab : ((a.length : Nat) : Int) = (b.length : Nat) := by simpa [C.den, T.den, intCmp, Env.from_, Env.ofL] using h
    refine sem_loop (Env.from_ _ 7200 (Env.ofL [.int .i64 0])) (Env.from_ag _ _ _) rfl ⟨0, rfl, Nat.zero_le _, fun j hj => absurd hj (Nat.not_lt_zero j)⟩ (by kernel_rfl) (fun ρ1 ρ2 h => ?_) (fun ρ hag hinv => ?_)
    · show ((a.length : Int) - ρ2.i 7200).toNat = ((a.length : Int) - ρ1.i 7200).toNat
      rw [(h 7200 (by decide)).1]
    obtain ⟨k, hi, hk, hsame⟩ := hinv
    have hi : ρ.i 7200 = k := hi
    have hg : ρ.g 199 = encG G := Env.ag_g hag (show 199 < 7200 by decide)
    have x0 : ρ.v 0 = v1 := (hag 0 (by decide)).2.2
    have x1 : ρ.v 1 = v2 := (hag 1 (by decide)).2.2
    refine sem_step G [v1] (Env.ofL [.int .i64 a.length]) rfl (by show [oneOf (ρ.v 0), ρ.g 199] = _; rw [x0, hg, oneOf_eq o1]; rfl) ⟨v1, 1, _, _, rfl, hv, rfl⟩ ?_
    refine sem_split (fun h => ?_) (fun h => ?_)
    · have h : ρ.i 7200 < (a.length : Int) := of_decide_eq_true h
      obtain ⟨m, p, all, q1, q2, q3, q4⟩ := sl_at hv Nat.one_pos (i := ρ.i 7200) (by omega) h
      obtain ⟨m', p', all', r1, r2, r3, r4⟩ := sl_at hw Nat.one_pos (i := ρ.i 7200) (by omega) (by omega)
      have q5 := q4 0 Nat.one_pos
      have r5 := r4 0 Nat.one_pos
      have ka : k < a.length := by omega
      have kb : k < b.length := by omega
      rw [hi, Int.toNat_natCast, Nat.mul_one, Nat.add_zero, Nat.add_zero, List.getElem?_map, List.getElem?_eq_getElem ka] at q5
      rw [hi, Int.toNat_natCast, Nat.mul_one, Nat.add_zero, Nat.add_zero, List.getElem?_map, List.getElem?_eq_getElem kb] at r5
      refine sem_step G [v1, .int .i64 (ρ.i 7200)] _ rfl (by show [oneOf (ρ.v 0), Value.int .i64 (ρ.i 7200), ρ.g 199] = _; rw [x0, hg, oneOf_eq o1]; rfl) q1 ?_
      refine sem_step G [tokAt m p] (Env.ofL [.int .i64 a[k]]) rfl (by show [tokAt m (p + 0), ρ.g 199] = _; rw [hg]; rfl) ⟨m, p, all, _, rfl, q2, q5, rfl⟩ ?_
      refine sem_step G [v2, .int .i64 (ρ.i 7200)] _ rfl (by show [oneOf (ρ.v 1), Value.int .i64 (ρ.i 7200), ρ.g 199] = _; rw [x1, hg, oneOf_eq o2]; rfl) r1 ?_
      refine sem_step G [tokAt m' p'] (Env.ofL [.int .i64 b[k]]) rfl (by show [tokAt m' (p' + 0), ρ.g 199] = _; rw [hg]; rfl) ⟨m', p', all', _, rfl, r2, r5, rfl⟩ ?_
      refine sem_split (fun h => ?_) (fun h => ?_)
      · have h : (a[k] == b[k]) = true := h
        have h : a[k] = b[k] := by simpa using h
        have hw' := wrap_up' (i := ρ.i 7200) (by omega) (by omega)
        refine sem_again (Env.from_ _ 7200 (Env.ofL [.int .i64 (ρ.i 7200 + 1)])) (Env.from_ag _ _ _) ?_ ⟨k + 1, ?_, by omega, fun j hj => ?_⟩ ?_
        · show [Value.int .i64 (ρ.i 7200 + 1)] = [Value.int .i64 (IntKind.i64.wrap (ρ.i 7200 + 1))]
          rw [hw']
        · show ρ.i 7200 + 1 = _
          rw [hi]; rfl
        · by_cases hj' : j < k
          · exact hsame j hj'
          · have : j = k := by omega
            subst this
            rw [List.getElem?_eq_getElem ka, List.getElem?_eq_getElem kb, h]
        · show ((a.length : Int) - (ρ.i 7200 + 1)).toNat < ((a.length : Int) - ρ.i 7200).toNat
          omega
      · have h : (a[k] == b[k]) = false := h
        have h : a[k] ≠ b[k] := by simpa using h
        exact ret false _ _ (decide_eq_false fun e => h (by subst e; rfl)) hg
    · have h : ¬ ρ.i 7200 < (a.length : Int) := of_decide_eq_false h
      refine ret true _ _ (decide_eq_true (List.ext_getElem? fun j => ?_)) hg
      by_cases hj : j < k
      · exact hsame j hj
      · rw [List.getElem?_eq_none (by omega), List.getElem?_eq_none (by omega)]
  · have hab : ¬ ((a.length : Nat) : Int) = (b.length : Nat) := by simpa [C.den, T.den, intCmp, Env.from_, Env.ofL] using h
    exact ret false _ _ (decide_eq_false fun e => hab (by rw [e])) rfl
end Go.Proofs.Ytcedgoaanlbldaa
