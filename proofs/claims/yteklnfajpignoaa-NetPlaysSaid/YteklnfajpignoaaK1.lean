/- What is proved: the contracts of Pick, CopyBytes and SameBytes. No condition. -/
import Derived.Test.YteklnfajpignoaaC1
namespace Go.Proofs.Yteklnfajpignoaa
open Sx
set_option maxRecDepth 100000

theorem cellsAt_keep {G G' : List Ob} (h : ∀ (n : Nat) o, G[n]? = some o → G'[n]? = some o) {m : Nat} {all : List Value} (ha : cellsAt G m = some all) : cellsAt G' m = some all := by
  unfold cellsAt at ha ⊢
  cases hm : G[m]? with
  | none => rw [hm] at ha; cases ha
  | some o => rw [hm] at ha; rw [h m o hm]; exact ha
theorem sl_keep {G G' : List Ob} (h : ∀ (n : Nat) o, G[n]? = some o → G'[n]? = some o) {v : Value} {s len : Nat} {cells : List Value} (hs : Sx.Sl G v s len cells) : Sx.Sl G' v s len cells := by
  rcases hs with hs | ⟨m, k, all, ⟨n, rfl, hin⟩, hall, hle, hc⟩
  · exact .inl hs
  · refine .inr ⟨m, k, all, ⟨n, rfl, ?_⟩, cellsAt_keep h hall, hle, hc⟩
    rcases hin with ⟨cs, hcs, e⟩ | ⟨hv, hm⟩
    · exact .inl ⟨cs, hcs.imp (h n _) (h n _), e⟩
    · exact .inr ⟨h n _ hv, hm⟩
/-- The place of an element, and what lies there. -/
theorem sl_at {G : List Ob} {v : Value} {s len : Nat} {cells : List Value} (h : Sx.Sl G v s len cells) (hs : 0 < s) {i : Int} (h0 : 0 ≤ i) (hi : i < (len : Nat)) :
    ∃ (m p : Nat) (all : List Value), idxR s G [v, .int .i64 i] (Env.ofL [.int .i64 m, .int .i64 p]) ∧ cellsAt G m = some all ∧ p + s ≤ all.length ∧ ∀ j, j < s → all[p + j]? = cells[i.toNat * s + j]? := by
  rcases h with ⟨_, rfl, _⟩ | ⟨m, k, all, hin, hall, hle, rfl⟩
  · omega
  · have hlt : i.toNat + 1 ≤ len := by omega
    have hm : (i.toNat + 1) * s ≤ len * s := Nat.mul_le_mul_right _ hlt
    rw [Nat.add_mul, Nat.one_mul] at hm
    refine ⟨m, k + i.toNat * s, all, ⟨v, .i64, i, m, k, len, all, rfl, hin, hall, hle, h0, hi, hs, rfl, rfl⟩, hall, by omega, fun j hj => ?_⟩
    rw [List.getElem?_take_of_lt (by omega), List.getElem?_drop, Nat.add_assoc]
/-- Pick. -/
def pickI (a b : Int) : Int := if b < 1 then 0 else if a.tmod b < 0 then IntKind.i64.wrap (a.tmod b + b) else a.tmod b
def pickC : Con := mkCon 20 [] (.int .i64 (.var 0))
def pickS : ConS := fun vs e => ∃ a b, vs = [.int .i64 a, .int .i64 b] ∧ e.i 0 = pickI a b
def treePick : Tree :=
 (.split (.cmp .lss (.var 1) (.lit 1))
 (leafT (.int .i64 (.lit 0)) .nil)
 (.need (.not (.cmp .eql (.var 1) (.lit 0))) (.split (.cmp .lss (.bin .rem .i64 (.var 0) (.var 1)) (.lit 0))
 (leafT (.int .i64 (.bin .add .i64 (.bin .rem .i64 (.var 0) (.var 1)) (.var 1))) .nil)
 (leafT (.int .i64 (.bin .rem .i64 (.var 0) (.var 1))) .nil))))
theorem pick_holds : pickC.holds Try.prog pickS := by
  refine con_of_run (cs := []) (S := []) (LT := []) (depth := 0) (fuel := 10) (nv := 200) (gh := 0) (av := [.int .i64 (.var 0), .int .i64 (.var 1)]) (T := treePick) trivial (by kernel_rfl) (by kernel_rfl) (by kernel_rfl) ?_
  rintro vs g e0 ⟨a, b, hvs, he⟩
  have hvs : vs = [.int .i64 a, .int .i64 b] := hvs
  subst hvs
  refine ⟨noLoops, (Env.ofL [.int .i64 a, .int .i64 b]).st (encG []), rfl, rfl, ?_⟩
  unfold pickI at he
  refine sem_split (fun h => ?_) (fun h => ?_)
  · have h : b < 1 := of_decide_eq_true h
    rw [if_pos h] at he
    exact sem_ret rfl (by show _ = Value.int .i64 (e0.i 0); rw [he]; rfl) trivial
  · have h : ¬ b < 1 := of_decide_eq_false h
    rw [if_neg h] at he
    refine sem_need (by show (!(b == 0)) = true; rw [show (b == 0) = false from beq_eq_false_iff_ne.2 (by omega)]; rfl) ?_
    refine sem_split (fun h => ?_) (fun h => ?_)
    · have h : a.tmod b < 0 := of_decide_eq_true h
      rw [if_pos h] at he
      exact sem_ret rfl (by show _ = Value.int .i64 (e0.i 0); rw [he]; rfl) trivial
    · have h : ¬ a.tmod b < 0 := of_decide_eq_false h
      rw [if_neg h] at he
      exact sem_ret rfl (by show _ = Value.int .i64 (e0.i 0); rw [he]; rfl) trivial
theorem wrap_up' {i : Int} (h0 : 0 ≤ i) (h1 : i ≤ 1000000) : IntKind.i64.wrap (i + 1) = i + 1 := by rw [inc_small h0 h1]; omega
/-- CopyBytes. -/
def cpS : List Ob → Value → List Int → List Int → List Ob × Value
  | G, v, _, [] => (G, v)
  | G, v, xs, c :: r => cpS (killV (litG G c) v ++ [.row 1 (xs.length + 1) ((xs ++ [c]).map (Value.int .u8))]) (tok (litG G c).length) (xs ++ [c]) r
def cpG (G : List Ob) (bs : List Int) : List Ob := (cpS G (.slice none 0 0) [] bs).1
def cpV (G : List Ob) (bs : List Int) : Value := (cpS G (.slice none 0 0) [] bs).2
/-- What holds in the midst of it. -/
structure CpAt (G Gj : List Ob) (v : Value) (xs : List Int) : Prop where
  dst : Dst Gj v 1 xs.length (xs.map (Value.int .u8))
  keep : ∀ (n : Nat) o, G[n]? = some o → Gj[n]? = some o
  new : ∀ d, v = tok d → G.length ≤ d
  len : G.length ≤ Gj.length
theorem CpAt.start (G : List Ob) : CpAt G G (.slice none 0 0) [] := ⟨.inl ⟨rfl, rfl, rfl⟩, fun _ _ h => h, fun d h => (by cases h), Nat.le_refl _⟩
theorem CpAt.next {G Gj : List Ob} {v : Value} {xs : List Int} (h : CpAt G Gj v xs) (c : Int) : CpAt G (killV (litG Gj c) v ++ [.row 1 (xs.length + 1) ((xs ++ [c]).map (Value.int .u8))]) (tok (litG Gj c).length) (xs ++ [c]) := by
  have hlen : (litG Gj c).length = Gj.length + 1 := by simp [litG]
  have hl := h.len
  refine ⟨.inr ⟨_, rfl, ?_⟩, fun n o ho => ?_, fun d hd => ?_, ?_⟩
  · rw [List.getElem?_append_right (by rw [killV_length]; exact Nat.le_refl _), killV_length, Nat.sub_self, List.length_append]
    rfl
  · have hn := (List.getElem?_eq_some_iff.1 ho).1
    rw [List.getElem?_append_left (by rw [killV_length]; omega)]
    have h2 : (litG Gj c)[n]? = some o := by unfold litG; rw [List.getElem?_append_left (by omega)]; exact h.keep n o ho
    rcases h.dst with ⟨rfl, _⟩ | ⟨d, rfl, _⟩
    · exact h2
    · have := h.new d rfl
      rw [killV_tok, List.getElem?_set_ne (by omega)]
      exact h2
  · have hd : (litG Gj c).length = d := by simpa [tok] using hd
    omega
  · rw [List.length_append, killV_length]
    omega
theorem cpS_at {G : List Ob} (r : List Int) : ∀ {Gj : List Ob} {v : Value} {xs : List Int}, CpAt G Gj v xs → CpAt G (cpS Gj v xs r).1 (cpS Gj v xs r).2 (xs ++ r) := by
  induction r with
  | nil => intro Gj v xs h; rw [List.append_nil]; exact h
  | cons c r ih =>
    intro Gj v xs h
    have := ih (h.next c)
    rw [List.append_assoc] at this
    exact this
theorem cp_at (G : List Ob) (bs : List Int) : CpAt G (cpG G bs) (cpV G bs) bs := cpS_at bs (CpAt.start G)
def copyR (G : List Ob) (l : List Value) (e : Env) : Prop := ∃ v bs, l = [v] ∧ Sx.Sl G v 1 bs.length (bs.map (Value.int .u8)) ∧ bs.length ≤ 1000000 ∧ e.v 0 = cpV G bs ∧ e.g gv = encG (cpG G bs)
def copyC : Con := mkCon 22 [] (.hnd 0) 2
def kp : List Con := [loadC 5 (.int .u8 (.var 0)), lenC 30, idxC 30, bsC 30 1, appC 30, storeC 5]
def kpS : List ConS := [conR (loadR (.int .u8 (.var 0))), conR lenR, conR (idxR 1), conR (bsR 1 1), conR (appR 1 1), conR (storeR 1)]
theorem kp_holds : Cons Try.prog kp kpS :=
  ⟨load_holds (by kernel_rfl) rfl, len_holds Try.underlying30, idx_holds Try.underlying30 (by kernel_rfl), bs_ok (b := 1) (z := .int .u8 0) Try.underlying30 (by kernel_rfl) rfl, app_ok (z := .int .u8 0) Try.underlying30 (by kernel_rfl) rfl, store_holds (by kernel_rfl), trivial⟩
def cpInv (G : List Ob) (bs : List Int) (nv : Nat) (ρ : Env) : Prop := ∃ Gj xs r, ρ.g (nv + 999) = encG Gj ∧ ρ.i (nv + 1) = (xs.length : Nat) ∧ bs = xs ++ r ∧ CpAt G Gj (ρ.v nv) xs ∧ cpS G (.slice none 0 0) [] bs = cpS Gj (ρ.v nv) xs r
def cpLQ (G : List Ob) (bs : List Int) : LoopS := ⟨fun _ nv ρ => cpInv G bs nv ρ, fun _ nv ρ => (bs.length - ρ.i (nv + 1)).toNat⟩
def treeCopy : Tree :=
 (.loop 3 3200 [(3200, (.lit (.slice none 0 0))), (3201, (.int .i64 (.lit 0))), (4199, (.var 199))]
 (.call 1 6200 [(.hnd 0), (.var 4199)]
 (.split (.cmp .lss (.var 3201) (.var 6200))
 (.call 2 11200 [(.hnd 0), (.int .i64 (.var 3201)), (.var 4199)]
 (.call 0 12200 [(.pla (.var 11200) (.var 11201) 0), (.var 4199)]
 (.call 3 13200 [(.int .u8 (.var 12200)), (.var 4199)]
 (.call 4 14200 [(.hnd 3200), (.hnd 13200), (.var 14199)]
 (.again 3 3200 [(3200, (.hnd 14200)), (3201, (.int .i64 (.bin .add .i64 (.var 3201) (.lit 1)))), (4199, (.var 15199))])))))
 (leafG (.hnd 3200) .nil 4199))))
theorem copy_holds : copyC.holds Try.prog (conR copyR) := by
  refine con_of_runG (cs := kp) (S := kpS) (LT := [(3, ⟨[(3, fun b => .hnd b), (4, fun b => .int .i64 (.var (b + 1)))], [], [], true⟩)]) (depth := 0) (fuel := 10) (nv := 200) (av := [.hnd 0]) (T := treeCopy) kp_holds (by kernel_rfl) (by kernel_rfl) (by kernel_rfl) ?_
  rintro G l e0 ⟨v, bs, rfl, hv, hbl, q0, hG⟩
  have hv1 := hv.one
  refine ⟨cpLQ G bs, (Env.ofL [v]).st (encG G), by show [v] = [oneOf v]; rw [oneOf_eq hv1], rfl, ?_⟩
  refine sem_loop (Env.from_ _ 3200 ((Env.ofL [.slice none 0 0, .int .i64 0]).ans (encG G))) (Env.from_ag _ _ _) rfl ⟨G, [], bs, rfl, rfl, rfl, CpAt.start G, rfl⟩ (by kernel_rfl) (fun ρ1 ρ2 h => ?_) (fun ρ hag hinv => ?_)
  · show ((bs.length : Int) - ρ2.i 3201).toNat = ((bs.length : Int) - ρ1.i 3201).toNat
    rw [(h 3201 (by decide)).1]
  obtain ⟨Gj, xs, r, hg, hi, hbs, hat, hcp⟩ := hinv
  have hg : ρ.g 4199 = encG Gj := hg
  have hi : ρ.i 3201 = (xs.length : Nat) := hi
  have hx : ρ.v 0 = v := (hag 0 (by decide)).2.2
  have hd1 := hat.dst.one
  have hsj := sl_keep hat.keep hv
  refine sem_step Gj [v] (Env.ofL [.int .i64 bs.length]) rfl (by show [oneOf (ρ.v 0), ρ.g 4199] = _; rw [hx, hg, oneOf_eq hv1]; rfl) ⟨v, 1, _, _, rfl, hsj, rfl⟩ ?_
  refine sem_split (fun h => ?_) (fun h => ?_)
  · have h : ρ.i 3201 < (bs.length : Int) := of_decide_eq_true h
    obtain ⟨c, r', rfl⟩ : ∃ c r', r = c :: r' := by
      cases r with
      | nil => rw [hbs, List.append_nil] at h; omega
      | cons c r' => exact ⟨c, r', rfl⟩
    obtain ⟨m, p, all, q1, q2, q3, q4⟩ := sl_at hsj Nat.one_pos (i := ρ.i 3201) (by omega) h
    have q5 := q4 0 Nat.one_pos
    rw [hi, Int.toNat_natCast, Nat.mul_one, Nat.add_zero, Nat.add_zero, List.getElem?_map, hbs, List.getElem?_append_right (Nat.le_refl _), Nat.sub_self] at q5
    refine sem_step Gj [v, .int .i64 (ρ.i 3201)] _ rfl (by show [oneOf (ρ.v 0), Value.int .i64 (ρ.i 3201), ρ.g 4199] = _; rw [hx, hg, oneOf_eq hv1]; rfl) q1 ?_
    refine sem_step Gj [tokAt m p] (Env.ofL [.int .u8 c]) rfl (by show [tokAt m (p + 0), ρ.g 4199] = _; rw [hg]; rfl) ⟨m, p, all, .int .u8 c, rfl, q2, q5, rfl⟩ ?_
    refine sem_step Gj [.int .u8 c] _ rfl (by show [Value.int .u8 c, ρ.g 4199] = _; rw [hg]; rfl) (lit_bs _ _) ?_
    refine sem_step (litG Gj c) [ρ.v 3200, tok Gj.length] ((Env.ofL [tok (litG Gj c).length]).ans (encG (killV (litG Gj c) (ρ.v 3200) ++ [.row 1 (xs.length + 1) ((xs ++ [c]).map (Value.int .u8))]))) rfl (by show [oneOf (ρ.v 3200), _, _] = _; rw [oneOf_eq hd1]; rfl)
      ⟨ρ.v 3200, tok Gj.length, xs.length, 1, xs.map (Value.int .u8), [.int .u8 c], rfl, lit_sl Gj c, ?_, ?_, .inr ⟨Nat.one_pos, Dst.append hat.dst, rfl, false, ?_⟩⟩ ?_
    · rw [hbs] at hbl; simp at hbl; omega
    · rw [hbs] at hbl; simp at hbl; omega
    · rw [List.map_append]; rfl
    have hw := wrap_up' (i := ρ.i 3201) (by omega) (by omega)
    refine sem_again (Env.from_ _ 3200 ((Env.ofL [tok (litG Gj c).length, .int .i64 (ρ.i 3201 + 1)]).ans (encG (killV (litG Gj c) (ρ.v 3200) ++ [.row 1 (xs.length + 1) ((xs ++ [c]).map (Value.int .u8))])))) (Env.from_ag _ _ _) ?_ ⟨_, xs ++ [c], r', rfl, ?_, by rw [hbs]; simp, hat.next c, hcp⟩ ?_
    · show [tok (litG Gj c).length, Value.int .i64 (ρ.i 3201 + 1), _] = [_, Value.int .i64 (IntKind.i64.wrap (ρ.i 3201 + 1)), _]
      rw [hw]
      rfl
    · show ρ.i 3201 + 1 = _
      rw [hi]; simp
    · show ((bs.length : Int) - (ρ.i 3201 + 1)).toNat < ((bs.length : Int) - ρ.i 3201).toNat
      omega
  · have h : ¬ ρ.i 3201 < (bs.length : Int) := of_decide_eq_false h
    obtain rfl : r = [] := by
      cases r with
      | nil => rfl
      | cons c r' => rw [hbs] at h; simp at h; omega
    refine sem_retG rfl ?_ trivial ?_
    · show oneOf (ρ.v 3200) = oneOf (e0.v 0)
      rw [q0]
      unfold cpV
      rw [hcp]
      rfl
    · rw [hG]
      unfold cpG
      rw [hcp]
      exact hg
end Go.Proofs.Yteklnfajpignoaa
