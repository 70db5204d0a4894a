/- What is proved: the contracts of a net's Lose and Deliver; the contract of a net's Deliver. No condition but those each law names. -/
import Derived.Test.YteklnfajpignoaaB6
import Derived.Test.YteklnfajpignoaaD1
namespace Go.Proofs.Yteklnfajpignoaa
open Sx
set_option maxRecDepth 100000

theorem rowC_erase (r : List Lt) (k : Nat) : rowC (r.eraseIdx k) = (rowC r).take (k * 3) ++ (rowC r).drop ((k + 1) * 3) := by
  induction r generalizing k with
  | nil => simp [rowC]
  | cons a r ih =>
    have hl : a.cells.length = 3 := rfl
    cases k with
    | zero =>
      show rowC r = (a.cells ++ rowC r).take (0 * 3) ++ (a.cells ++ rowC r).drop ((0 + 1) * 3)
      rw [Nat.zero_mul, List.take_zero, List.nil_append, show (0 + 1) * 3 = a.cells.length from rfl, List.drop_left]
    | succ k =>
      show a.cells ++ rowC (r.eraseIdx k) = (a.cells ++ rowC r).take ((k + 1) * 3) ++ (a.cells ++ rowC r).drop ((k + 1 + 1) * 3)
      rw [ih, show (k + 1) * 3 = a.cells.length + k * 3 by rw [hl]; omega, show (k + 1 + 1) * 3 = a.cells.length + (k + 1) * 3 by rw [hl]; omega, List.take_length_add_append, List.drop_length_add_append, List.append_assoc]
      congr 2
      rw [hl]
      congr 1
      omega
/-- The row is another. -/
def reN (G : List Ob) (N : NetM) (r : List Lt) : NetM := { N with row := r, rv := tok G.length }
def reS (G : List Ob) (N : NetM) (r : List Lt) : List Ob := killV G N.rv ++ [.row 3 r.length (rowC r)]
def reG (G : List Ob) (x : Nat) (N : NetM) (r : List Lt) : List Ob := (reS G N r).set x (.ptr (reN G N r).cells)
theorem IsNet.ne {G : List Ob} {x : Nat} {N : NetM} (h : IsNet G x N) {n : Nat} {o : Ob} (ho : G[n]? = some o) (hno : ∀ a b c, o ≠ .row a b c) : N.rv ≠ tok n := fun e => by
  rcases h.row with ⟨e', _⟩ | ⟨d, e', hr⟩
  · rw [e'] at e; cases e
  · rw [e'] at e
    have : d = n := by simpa [tok] using e
    subst this
    rw [hr] at ho
    cases ho
    exact hno _ _ _ rfl
theorem reS_get {G : List Ob} {x : Nat} {N : NetM} {r : List Lt} (h : IsNet G x N) {n : Nat} {o : Ob} (ho : G[n]? = some o) (hne : N.rv ≠ tok n) : (reS G N r)[n]? = some o := by
  unfold reS
  rw [List.getElem?_append_left (by rw [killV_length]; exact (List.getElem?_eq_some_iff.1 ho).1), killV_other h.row hne]
  exact ho
theorem Step.rerow {G : List Ob} {x : Nat} {N : NetM} {r : List Lt} (h : IsNet G x N) (hr : ∀ l ∈ r, Body G l.v l.bs ∧ l.bs.length ≤ 400) (hlen : r.length ≤ 1000) : Step x N G (reN G N r) (reG G x N r) := by
  have hk : (killV G N.rv).length = G.length := killV_length _ _
  have hxl := (List.getElem?_eq_some_iff.1 h.ob).1
  have hx3 : x < (reS G N r).length := by unfold reS; rw [List.length_append, hk]; omega
  have keep4 : ∀ (n : Nat) o c, G[n]? = some o → N.rv ≠ tok n → n ≠ x → ((reS G N r).set x (.ptr c))[n]? = some o := fun n o c ho hne hx => by
    rw [List.getElem?_set_ne (Ne.symm hx)]
    exact reS_get h ho hne
  have nx : ∀ (n : Nat) o, G[n]? = some o → (∀ c, o ≠ .ptr c) → n ≠ x := fun n o ho hno e => by
    subst e
    rw [h.ob] at ho
    cases ho
    exact hno _ rfl
  refine ⟨⟨List.getElem?_set_self hx3, ?_, fun l hl => ⟨(hr l hl).1.keep fun n s' l' c' ho => keep4 n _ _ ho (h.ne ho fun _ _ _ e => by cases e) (nx n _ ho fun _ e => by cases e), (hr l hl).2⟩, ?_, h.keys, hlen⟩, ⟨?_, fun n o ho h1 h2 h3 => keep4 n o _ ho h3 h1⟩, .inr ⟨_, rfl, Nat.le_refl _⟩, rfl⟩
  · refine .inr ⟨_, rfl, ?_⟩
    unfold reG
    rw [List.getElem?_set_ne (by omega)]
    show (killV G N.rv ++ [_])[G.length]? = _
    rw [List.getElem?_append_right (by omega), hk, Nat.sub_self]
    rfl
  · exact keep4 _ _ _ h.map (h.ne h.map fun _ _ _ e => by cases e) (nx _ _ h.map fun _ e => by cases e)
  · unfold reG reS
    rw [List.length_set, List.length_append, hk]
    omega
/-- A letter goes. -/
def goN (G : List Ob) (N : NetM) (k : Int) : NetM := reN G N (N.row.eraseIdx k.toNat)
def goG (G : List Ob) (x : Nat) (N : NetM) (k : Int) : List Ob := reG G x N (N.row.eraseIdx k.toNat)
theorem Step.go {G : List Ob} {x : Nat} {N : NetM} (h : IsNet G x N) (k : Int) : Step x N G (goN G N k) (goG G x N k) := by
  refine Step.rerow h (fun l hl => h.body l (List.mem_of_mem_eraseIdx hl)) ?_
  have := List.length_eraseIdx_le N.row k.toNat
  have := h.len
  omega
theorem go_del {G : List Ob} {x : Nat} {N : NetM} (h : IsNet G x N) {k : Int} (hk : lookB N k = true) : ∃ d, N.rv = tok d ∧ G[d]? = some (.row 3 N.row.length (rowC N.row)) ∧ delG G d k.toNat N.row.length (rowC N.row) = reS G N (N.row.eraseIdx k.toNat) := by
  obtain ⟨_, hl, _⟩ := lookB_spec hk
  rcases h.row with ⟨_, e, _⟩ | ⟨d, e, hr⟩
  · omega
  · refine ⟨d, e, hr, ?_⟩
    unfold delG reS
    rw [e, killV_tok, rowC_erase, List.length_eraseIdx_of_lt hl]
def c3 : List Con := delC :: c2
def c3S : List ConS := conR delR :: c2S
theorem c3_holds : Cons Try.prog c3 c3S := ⟨del_holds, c2_holds⟩
theorem inc_small {k : Int} (h0 : 0 ≤ k) (h1 : k ≤ 1000000) : IntKind.i64.wrap (k + 1) = ((k.toNat + 1 : Nat) : Int) := by
  rw [IntWalk.i64_left, IntWalk.wrap64_in _ (by omega)]
  omega
/-- Lose. -/
def losN1 (N : NetM) : NetM := { N with lost := inc N.lost }
def losG1 (G : List Ob) (x : Nat) (N : NetM) (k : Int) : List Ob := (lookG G N k).set x (.ptr (losN1 N).cells)
def losN (G : List Ob) (x : Nat) (N : NetM) (k : Int) : NetM := if lookB N k then goN (losG1 G x N k) (losN1 N) k else N
def losG (G : List Ob) (x : Nat) (N : NetM) (k : Int) : List Ob := if lookB N k then goG (losG1 G x N k) x (losN1 N) k else lookG G N k
theorem Step.los {G : List Ob} {x : Nat} {N : NetM} (h : IsNet G x N) (k : Int) : Step x N G (losN G x N k) (losG G x N k) := by
  have h0 := Step.look h k
  unfold losN losG
  by_cases hb : lookB N k = true
  rotate_left
  · rw [if_neg hb, if_neg hb]; exact h0
  rw [if_pos hb, if_pos hb]
  have h1 : Step x N (lookG G N k) (losN1 N) (losG1 G x N k) := Step.put h0.is_ rfl rfl rfl rfl
  exact h0.trans (h1.trans (Step.go h1.is_ k))
def losR (G : List Ob) (l : List Value) (e : Env) : Prop := ∃ x N k, l = [tokAt x 0, .int .i64 k] ∧ IsNet G x N ∧ e.b 0 = lookB N k ∧ e.g gv = encG (losG G x N k)
def losC : Con := mkCon 26 [] (.bool (.var 0)) 2
/-- The steps that take a letter out of the row. -/
theorem sem_go {K : Env → Ex → St → Prop} {ρ : Env} {b1 b2 b3 : Nat} {vs1 vs2 vs3 : List E} {t : Tree} {G : List Ob} {x : Nat} {N : NetM} {k : Int} (h : IsNet G x N) (hk : lookB N k = true)
    (h1 : E.nams ρ lay0 vs1 = [tokAt x 1, encG G]) (h2 : ∀ d, N.rv = tok d → E.nams (ρ.from_ b1 (Env.ofL [tok d])) lay0 vs2 = [tok d, .int .i64 k, .int .i64 (IntKind.i64.wrap (k + 1)), encG G])
    (h3 : ∀ d, N.rv = tok d → E.nams ((ρ.from_ b1 (Env.ofL [tok d])).from_ b2 ((Env.ofL [tok G.length]).ans (encG (reS G N (N.row.eraseIdx k.toNat))))) lay0 vs3 = [tokAt x 1, tok G.length, encG (reS G N (N.row.eraseIdx k.toNat))])
    (h4 : ∀ d, N.rv = tok d → treeSem c3S noLoops K (((ρ.from_ b1 (Env.ofL [tok d])).from_ b2 ((Env.ofL [tok G.length]).ans (encG (reS G N (N.row.eraseIdx k.toNat))))).from_ b3 ((Env.ofL []).ans (encG (goG G x N k)))) t) :
    treeSem c3S noLoops K ρ (.call 6 b1 vs1 (.call 0 b2 vs2 (.call 14 b3 vs3 t))) := by
  obtain ⟨d, hd, hdG, hdel⟩ := go_del h hk
  obtain ⟨_, hkl, hk0⟩ := lookB_spec hk
  have hlen := h.len
  refine sem_step G [tokAt x 1] (Env.ofL [tok d]) rfl h1 ⟨x, 1, _, tok d, rfl, cells_ptr h.ob, by rw [← hd]; rfl, rfl⟩ ?_
  refine sem_step G [tok d, .int .i64 k, .int .i64 (IntKind.i64.wrap (k + 1))] ((Env.ofL [tok G.length]).ans (encG (reS G N (N.row.eraseIdx k.toNat)))) rfl (h2 d hd) ⟨d, k.toNat, N.row.length, rowC N.row, ?_, hdG, hkl, by omega, rfl, ?_⟩ ?_
  · rw [inc_small hk0 (by omega), show ((k.toNat : Nat) : Int) = k by omega]
  · rw [hdel]; rfl
  · refine sem_step (reS G N (N.row.eraseIdx k.toNat)) [tokAt x 1, tok G.length] ((Env.ofL []).ans (encG (goG G x N k))) rfl (h3 d hd) ⟨x, 1, _, .ptr N.cells, N.cells, rfl, reS_get h h.ob (h.ne h.ob fun _ _ _ e => by cases e), rfl, rfl, rfl, fun u hu => ?_, fun cs e => (by cases e), by show 1 + 1 ≤ 7; omega, ?_⟩ (h4 d hd)
    · have : u = tok G.length := by simpa [Value.cells, tok] using hu
      subst this
      rfl
    · have e : (tok G.length).cells.toList = [tok G.length] := rfl
      rw [e, overV_set _ _ _ (by show 1 < 7; omega)]
      rfl
def treeLose : Tree :=
 (.call 2 3200 [(.pla (.var 0) (.lit 0) 0), (.int .i64 (.var 1)), (.var 199)]
 (.call 4 14200 [(.bool (.var 3203)), (.pla (.var 0) (.lit 0) 6), (.var 4199)]
 (.split (.var 14200)
 (.call 6 19200 [(.pla (.var 0) (.lit 0) 1), (.var 15199)]
 (.call 0 23200 [(.hnd 19200), (.int .i64 (.var 1)), (.int .i64 (.bin .add .i64 (.var 1) (.lit 1))), (.var 15199)]
 (.call 14 26200 [(.pla (.var 0) (.lit 0) 1), (.hnd 23200), (.var 24199)]
 (leafG (.bool (.var 3203)) .nil 27199))))
 (leafG (.bool (.var 3203)) .nil 15199))))
theorem los_holds : losC.holds Try.prog (conR losR) := by
  refine con_of_runG (cs := c3) (S := c3S) (LT := []) (depth := 1) (fuel := 10) (nv := 200) (av := [net, .int .i64 (.var 1)]) (T := treeLose) c3_holds (by kernel_rfl) (by kernel_rfl) (by kernel_rfl) ?_
  rintro G l e0 ⟨x, N, k, rfl, hN, he, hG⟩
  refine ⟨noLoops, (Env.ofL [.int .i64 x, .int .i64 k]).st (encG G), rfl, rfl, ?_⟩
  have h0 := Step.look hN k
  refine sem_step G [tokAt x 0, .int .i64 k] ((Env.ofL ((lookL G N k).cells ++ [.bool (lookB N k)])).ans (encG (lookG G N k))) rfl rfl ⟨x, N, k, rfl, hN, rfl, rfl, rfl, rfl, rfl⟩ ?_
  have hone : ∀ b, oneG (lookG G N k) x 6 N.cells N.lost b = if b then losG1 G x N k else lookG G N k := fun b => rfl
  refine sem_step (lookG G N k) [.bool (lookB N k), tokAt x 6] ((Env.ofL [.bool (lookB N k)]).ans (encG (oneG (lookG G N k) x 6 N.cells N.lost (lookB N k)))) rfl rfl ⟨_, x, 6, _, N.lost, rfl, h0.is_.ob, rfl, rfl, rfl⟩ ?_
  unfold losG at hG
  by_cases hb : lookB N k = true
  · rw [hb] at he hG ⊢
    rw [hone, if_pos rfl]
    rw [if_pos rfl] at hG
    refine sem_split (fun _ => ?_) (fun h => by cases h)
    have h1 : Step x N (lookG G N k) (losN1 N) (losG1 G x N k) := Step.put h0.is_ rfl rfl rfl rfl
    refine sem_go (k := k) h1.is_ hb rfl (fun d _ => rfl) (fun d _ => rfl) fun d _ => ?_
    exact sem_retG rfl (by show Value.bool true = Value.bool (e0.b 0); rw [he]) trivial (by rw [hG]; rfl)
  · have hb : lookB N k = false := by simpa using hb
    rw [hb] at he hG ⊢
    rw [hone, if_neg (by simp)]
    rw [if_neg (by simp)] at hG
    refine sem_split (fun h => by cases h) (fun _ => ?_)
    exact sem_retG rfl (by show Value.bool false = Value.bool (e0.b 0); rw [he]) trivial (by rw [hG]; rfl)
end Go.Proofs.Yteklnfajpignoaa

namespace Go.Proofs.Yteklnfajpignoaa
open Sx
set_option maxRecDepth 100000

def boolV : Value → Bool
  | .bool b => b
  | _ => false
/-- Is the way cut? -/
noncomputable def isCut (N : NetM) (a b : Int) : Bool := boolV ((getL N.cuts (keyOf a b)).getD (.bool false))
theorem isCut_eq {N : NetM} (h : ∀ p ∈ N.cuts, IntsKey 2 .i64 p.1 ∧ ∃ b, p.2 = .bool b) (a b : Int) : (getL N.cuts (keyOf a b)).getD (.bool false) = .bool (isCut N a b) := by
  unfold isCut
  cases hg : getL N.cuts (keyOf a b) with
  | none => rfl
  | some v =>
    obtain ⟨p, hp, rfl⟩ := getL_mem hg
    obtain ⟨c, hc⟩ := (h p hp).2
    rw [Option.getD_some, hc]
    rfl
noncomputable def dlvOk (N : NetM) (k : Int) : Bool := lookB N k && !isCut N (lookO N k).f (lookO N k).t
def dlvN1 (N : NetM) : NetM := { N with delivered := inc N.delivered }
def dlvG1 (G : List Ob) (x : Nat) (N : NetM) (k : Int) : List Ob := (lookG G N k).set x (.ptr (dlvN1 N).cells)
noncomputable def dlvN (G : List Ob) (x : Nat) (N : NetM) (k : Int) : NetM := if dlvOk N k then goN (dlvG1 G x N k) (dlvN1 N) k else N
noncomputable def dlvG (G : List Ob) (x : Nat) (N : NetM) (k : Int) : List Ob := if dlvOk N k then goG (dlvG1 G x N k) x (dlvN1 N) k else lookG G N k
noncomputable def dlvL (G : List Ob) (N : NetM) (k : Int) : Lt := if dlvOk N k then lookL G N k else ⟨0, 0, .slice none 0 0, []⟩
theorem Step.dlv {G : List Ob} {x : Nat} {N : NetM} (h : IsNet G x N) (k : Int) : Step x N G (dlvN G x N k) (dlvG G x N k) := by
  have h0 := Step.look h k
  unfold dlvN dlvG
  by_cases hb : dlvOk N k = true
  rotate_left
  · rw [if_neg hb, if_neg hb]; exact h0
  rw [if_pos hb, if_pos hb]
  have h1 : Step x N (lookG G N k) (dlvN1 N) (dlvG1 G x N k) := Step.put h0.is_ rfl rfl rfl rfl
  exact h0.trans (h1.trans (Step.go h1.is_ k))
def dlvR (G : List Ob) (l : List Value) (e : Env) : Prop := ∃ x N k, l = [tokAt x 0, .int .i64 k] ∧ IsNet G x N ∧ e.i 0 = (dlvL G N k).f ∧ e.i 1 = (dlvL G N k).t ∧ e.v 2 = (dlvL G N k).v ∧ e.b 3 = dlvOk N k ∧ e.g gv = encG (dlvG G x N k)
def dlvC : Con := mkCon 24 [] (.tup [.agg (letE 0), .bool (.var 3)]) 2
def treeDeliver : Tree :=
 (.call 2 4200 [(.pla (.var 0) (.lit 0) 0), (.int .i64 (.var 1)), (.var 199)]
 (.call 1 16200 [(.pla (.var 0) (.lit 0) 0), (.int .i64 (.var 4200)), (.int .i64 (.var 4201)), (.var 5199)]
 (.split (.var 4203)
 (.call 7 28200 [(.pla (.var 0) (.lit 0) 2), (.var 17199)]
 (.call 23 30200 [(.hnd 28200), (.agg ([(.int .i64 (.var 16200)), (.int .i64 (.var 16201))])), (.var 17199)]
 (.call 4 36200 [(.bool (.not (.var 30200))), (.pla (.var 0) (.lit 0) 5), (.var 17199)]
 (.split (.var 36200)
 (.call 6 42200 [(.pla (.var 0) (.lit 0) 1), (.var 37199)]
 (.call 0 46200 [(.hnd 42200), (.int .i64 (.var 1)), (.int .i64 (.bin .add .i64 (.var 1) (.lit 1))), (.var 37199)]
 (.call 14 49200 [(.pla (.var 0) (.lit 0) 1), (.hnd 46200), (.var 47199)]
 (leafG (.tup ([(.agg ([(.int .i64 (.var 4200)), (.int .i64 (.var 4201)), (.hnd 4202)])), (.bool (.lit true))])) .nil 50199))))
 (leafG (.tup ([(.agg ([(.int .i64 (.lit 0)), (.int .i64 (.lit 0)), (.lit (.slice none 0 0))])), (.bool (.lit false))])) .nil 37199)))))
 (.call 4 36200 [(.bool (.lit false)), (.pla (.var 0) (.lit 0) 5), (.var 17199)]
 (.split (.var 36200)
 (.call 6 42200 [(.pla (.var 0) (.lit 0) 1), (.var 37199)]
 (.call 0 46200 [(.hnd 42200), (.int .i64 (.var 1)), (.int .i64 (.bin .add .i64 (.var 1) (.lit 1))), (.var 37199)]
 (.call 14 49200 [(.pla (.var 0) (.lit 0) 1), (.hnd 46200), (.var 47199)]
 (leafG (.tup ([(.agg ([(.int .i64 (.var 4200)), (.int .i64 (.var 4201)), (.hnd 4202)])), (.bool (.lit true))])) .nil 50199))))
 (leafG (.tup ([(.agg ([(.int .i64 (.lit 0)), (.int .i64 (.lit 0)), (.lit (.slice none 0 0))])), (.bool (.lit false))])) .nil 37199))))))
theorem dlv_holds : dlvC.holds Try.prog (conR dlvR) := by
  refine con_of_runG (cs := c3) (S := c3S) (LT := []) (depth := 1) (fuel := 10) (nv := 200) (av := [net, .int .i64 (.var 1)]) (T := treeDeliver) c3_holds (by kernel_rfl) (by kernel_rfl) (by kernel_rfl) ?_
  rintro G l e0 ⟨x, N, k, rfl, hN, q0, q1, q2, q3, hG⟩
  have hl1 := lookL_one G N k
  refine ⟨noLoops, (Env.ofL [.int .i64 x, .int .i64 k]).st (encG G), rfl, rfl, ?_⟩
  have h0 := Step.look hN k
  refine sem_step G [tokAt x 0, .int .i64 k] ((Env.ofL ((lookL G N k).cells ++ [.bool (lookB N k)])).ans (encG (lookG G N k))) rfl rfl ⟨x, N, k, rfl, hN, rfl, rfl, rfl, rfl, rfl⟩ ?_
  refine sem_step (lookG G N k) [tokAt x 0, .int .i64 (lookL G N k).f, .int .i64 (lookL G N k).t] ((Env.ofL [.int .i64 (intMin (lookL G N k).f (lookL G N k).t), .int .i64 (intMax (lookL G N k).f (lookL G N k).t), .bool (wayB N.nodes (lookL G N k).f (lookL G N k).t)]).ans (encG (lookG G N k))) rfl rfl ⟨x, N, _, _, rfl, h0.is_, rfl, rfl, rfl, rfl⟩ ?_
  have hone : ∀ b, oneG (lookG G N k) x 5 N.cells N.delivered b = if b then dlvG1 G x N k else lookG G N k := fun b => rfl
  have bad : dlvOk N k = false → ∀ (ρ : Env) (g : Nat) (h : Tr (List E)), ρ.g g = encG (lookG G N k) → treeSem c3S noLoops (KF [] (.tup [.agg (letE 0), .bool (.var 3)]) e0 2) ρ (leafG (.tup [.agg [.int .i64 (.lit 0), .int .i64 (.lit 0), .lit (.slice none 0 0)], .bool (.lit false)]) h g) := fun hb ρ g h hg => by
    unfold dlvL at q0 q1 q2
    unfold dlvG at hG
    rw [if_neg (by rw [hb]; simp)] at q0 q1 q2 hG
    refine sem_retG rfl ?_ trivial (by rw [hG, hg])
    show _ = Value.tuple #[.agg #[.int .i64 (e0.i 0), .int .i64 (e0.i 1), oneOf (e0.v 2)], .bool (e0.b 3)]
    rw [q0, q1, q2, q3, hb]
    rfl
  refine sem_split (fun h => ?_) (fun h => ?_)
  · have hb : lookB N k = true := h
    refine sem_step (lookG G N k) [tokAt x 2] (Env.ofL [tok N.m]) rfl rfl ⟨x, 2, _, tok N.m, rfl, cells_ptr h0.is_.ob, rfl, rfl⟩ ?_
    have hlo : (lookL G N k).f = (lookO N k).f ∧ (lookL G N k).t = (lookO N k).t := by unfold lookL; rw [if_pos hb]; exact ⟨rfl, rfl⟩
    refine sem_step (lookG G N k) [tok N.m, keyOf (lookL G N k).f (lookL G N k).t] (Env.ofL [.bool (isCut N (lookO N k).f (lookO N k).t)]) rfl rfl ⟨N.m, N.cuts, _, rfl, h0.is_.map, keyOf_ok _ _, fun p hp => (hN.keys p hp).1, ?_⟩ ?_
    · rw [hlo.1, hlo.2, isCut_eq hN.keys]
      rfl
    have hok : dlvOk N k = !isCut N (lookO N k).f (lookO N k).t := by unfold dlvOk; rw [hb]; rfl
    refine sem_step (lookG G N k) [.bool (!isCut N (lookO N k).f (lookO N k).t), tokAt x 5] ((Env.ofL [.bool (!isCut N (lookO N k).f (lookO N k).t)]).ans (encG (oneG (lookG G N k) x 5 N.cells N.delivered (!isCut N (lookO N k).f (lookO N k).t)))) rfl rfl ⟨_, x, 5, _, N.delivered, rfl, h0.is_.ob, rfl, rfl, rfl⟩ ?_
    rw [← hok]
    by_cases hd : dlvOk N k = true
    · rw [hd, hone, if_pos rfl]
      unfold dlvL at q0 q1 q2
      unfold dlvG at hG
      rw [if_pos hd] at q0 q1 q2 hG
      refine sem_split (fun _ => ?_) (fun h => by cases h)
      have h1 : Step x N (lookG G N k) (dlvN1 N) (dlvG1 G x N k) := Step.put h0.is_ rfl rfl rfl rfl
      refine sem_go (k := k) h1.is_ hb rfl (fun d _ => rfl) (fun d _ => rfl) fun d _ => ?_
      refine sem_retG rfl ?_ trivial (by rw [hG]; rfl)
      show Value.tuple #[.agg #[.int .i64 (lookL G N k).f, .int .i64 (lookL G N k).t, oneOf (lookL G N k).v], .bool true] = Value.tuple #[.agg #[.int .i64 (e0.i 0), .int .i64 (e0.i 1), oneOf (e0.v 2)], .bool (e0.b 3)]
      rw [q0, q1, q2, q3, hd]
    · have hd : dlvOk N k = false := by simpa using hd
      rw [hd, hone, if_neg (by simp)]
      refine sem_split (fun h => by cases h) (fun _ => ?_)
      exact bad hd _ _ _ rfl
  · have hb : lookB N k = false := h
    have hd : dlvOk N k = false := by unfold dlvOk; rw [hb]; rfl
    refine sem_step (lookG G N k) [.bool false, tokAt x 5] ((Env.ofL [.bool false]).ans (encG (lookG G N k))) rfl rfl ⟨_, x, 5, _, N.delivered, rfl, h0.is_.ob, rfl, rfl, rfl⟩ ?_
    refine sem_split (fun h => by cases h) (fun _ => ?_)
    exact bad hd _ _ _ rfl
end Go.Proofs.Yteklnfajpignoaa
