/- What is proved: the contracts of a net's New, Waits, Counts, Look, between and lay. No condition. -/
import Derived.Test.YteklnfajpignoaaB2
namespace Go.Proofs.Yteklnfajpignoaa
open Go.RowKit Sx
set_option maxRecDepth 100000

theorem hnd_nam {e : Env} {c : Value} (h : e.v 0 = c) (h1 : c.oneCell' = true) : (E.hnd 0).nam e lay0 = c := by
  show oneOf (e.v 0) = c
  rw [h, oneOf_eq h1]
theorem cells_ptr {G : List Ob} {n : Nat} {cells : List Value} (h : G[n]? = some (.ptr cells)) : cellsAt G n = some cells := by unfold cellsAt; rw [h]; rfl
theorem cells_row {G : List Ob} {n s len : Nat} {cells : List Value} (h : G[n]? = some (.row s len cells)) : cellsAt G n = some cells := by unfold cellsAt; rw [h]; rfl
theorem dst_sl {G : List Ob} {v : Value} {s len : Nat} {xs : List Value} (h : Dst G v s len xs) (hl : xs.length = len * s) : Sl G v s len xs := by
  rcases h with h | ⟨d, rfl, h⟩
  · exact .inl h
  · refine .inr ⟨d, 0, xs, ⟨d, rfl, .inl ⟨xs, .inl h, rfl, rfl⟩⟩, cells_row h, by omega, ?_⟩
    rw [List.drop_zero, List.take_of_length_le (by omega)]
theorem rowC_length (r : List Lt) : (rowC r).length = r.length * 3 := by
  induction r with
  | nil => rfl
  | cons l r ih =>
    show (l.cells ++ rowC r).length = _
    rw [List.length_append, ih, List.length_cons]
    show 3 + _ = _
    omega
theorem IsNet.sl {G : List Ob} {x : Nat} {N : NetM} (h : IsNet G x N) : Sl G N.rv 3 N.row.length (rowC N.row) := dst_sl h.row (rowC_length _)
theorem getElem_flat {r : List Lt} {k : Nat} {l : Lt} (h : r[k]? = some l) : ((rowC r).drop (k * 3)).take 3 = l.cells := by
  induction r generalizing k with
  | nil => simp at h
  | cons a r ih =>
    show ((a.cells ++ rowC r).drop (k * 3)).take 3 = _
    cases k with
    | zero =>
      simp at h
      subst h
      rw [Nat.zero_mul, List.drop_zero]
      rfl
    | succ k =>
      rw [show (k + 1) * 3 = a.cells.length + k * 3 by show _ = 3 + k * 3; omega, ← List.drop_drop, List.drop_left]
      exact ih (by simpa using h)
/-- New. -/
def newNet (n : Int) (m : Nat) : NetM := ⟨n, [], [], 0, 0, 0, 0, .slice none 0 0, m⟩
def newG (G : List Ob) (n : Int) : List Ob := if n < 1 ∨ 32 < n then G else G ++ [.map []] ++ [.ptr (newNet n G.length).cells]
def newV (G : List Ob) (n : Int) : Value := if n < 1 ∨ 32 < n then .pointer none else tokAt (G.length + 1) 0
def newR (G : List Ob) (l : List Value) (e : Env) : Prop := ∃ n, l = [.int .i64 n] ∧ e.v 0 = newV G n ∧ e.g gv = encG (newG G n)
def newC : Con := mkCon 7 [] (.hnd 0) 2
def treeNew : Tree :=
 (.split (.cmp .lss (.var 0) (.lit 1))
 (leafG (.lit (.pointer none)) .nil 199)
 (.split (.cmp .gtr (.var 0) (.lit 32))
 (leafG (.lit (.pointer none)) .nil 199)
 (.call 16 8200 [(.var 199)]
 (.call 15 10200 [(.agg (cats [[(.int .i64 (.var 0)), (.lit (.slice none 0 0)), (.hnd 8200)], rep 4 (.int .i64 (.lit 0))])), (.var 9199)]
 (leafG (.pla (.var 10200) (.lit 0) 0) .nil 11199)))))
theorem new_holds : newC.holds Try.prog (conR newR) := by
  refine con_of_runG (cs := pr) (S := prS) (LT := []) (depth := 0) (fuel := 10) (nv := 200) (av := [.int .i64 (.var 0)]) (T := treeNew) pr_holds (by kernel_rfl) (by kernel_rfl) (by kernel_rfl) ?_
  rintro G l e0 ⟨n, rfl, he, hG⟩
  refine ⟨noLoops, (Env.ofL [.int .i64 n]).st (encG G), rfl, rfl, ?_⟩
  unfold newV at he
  unfold newG at hG
  refine sem_split (fun h => ?_) (fun h => ?_)
  · have h : n < 1 := of_decide_eq_true h
    rw [if_pos (.inl h)] at he hG
    exact sem_retG rfl (by show _ = oneOf (e0.v 0); rw [he]; rfl) trivial (by rw [hG]; rfl)
  · have h1 : ¬ n < 1 := of_decide_eq_false h
    refine sem_split (fun h => ?_) (fun h => ?_)
    · have h : n > 32 := of_decide_eq_true h
      rw [if_pos (.inr h)] at he hG
      exact sem_retG rfl (by show _ = oneOf (e0.v 0); rw [he]; rfl) trivial (by rw [hG]; rfl)
    · have h2 : ¬ n > 32 := of_decide_eq_false h
      rw [if_neg (by omega)] at he hG
      refine sem_step G [] ((Env.ofL [tok G.length]).ans (encG (G ++ [.map []]))) rfl rfl ⟨rfl, rfl, rfl⟩ ?_
      refine sem_step (G ++ [.map []]) [.agg (newNet n G.length).cells.toArray] ((Env.ofL [.int .i64 (G.length + 1 : Nat)]).ans (encG (G ++ [.map []] ++ [.ptr (newNet n G.length).cells]))) rfl rfl
        ⟨_, rfl, ?_, fun cs e => (by cases e), Nat.succ_pos 6, by simp [Env.ofL, Env.ans], rfl⟩ ?_
      · intro c hc
        simp [Value.cells, NetM.cells, newNet] at hc
        rcases hc with rfl | rfl | rfl | rfl <;> rfl
      · exact sem_retG rfl (by show _ = oneOf (e0.v 0); rw [he]; rfl) trivial (by rw [hG]; rfl)
theorem new_is (G : List Ob) {n : Int} (h : ¬ (n < 1 ∨ 32 < n)) : IsNet (newG G n) (G.length + 1) (newNet n G.length) := by
  unfold newG
  rw [if_neg h]
  refine ⟨?_, .inl ⟨rfl, rfl, rfl⟩, fun l hl => (by cases hl), ?_, fun p hp => (by cases hp), Nat.zero_le _⟩
  · rw [List.getElem?_append_right (by simp)]; simp
  · show (G ++ [.map []] ++ [Ob.ptr _])[G.length]? = _
    rw [List.append_assoc, List.getElem?_append_right (Nat.le_refl _)]; simp [newNet]
/-- How many wait. -/
def waitsR (G : List Ob) (l : List Value) (e : Env) : Prop := ∃ x N, l = [tokAt x 0] ∧ IsNet G x N ∧ e.i 0 = (N.row.length : Nat) ∧ e.g gv = encG G
def waitsC : Con := mkCon 12 [] (.int .i64 (.var 0)) 2
def net : E := .pla (.var 0) (.lit 0) 0
def treeWaits : Tree :=
 (.call 1 4200 [(.pla (.var 0) (.lit 0) 1), (.var 199)]
 (.call 5 5200 [(.hnd 4200), (.var 199)]
 (leafG (.int .i64 (.var 5200)) .nil 199)))
theorem waits_holds : waitsC.holds Try.prog (conR waitsR) := by
  refine con_of_runG (cs := pr) (S := prS) (LT := []) (depth := 0) (fuel := 10) (nv := 200) (av := [net]) (T := treeWaits) pr_holds (by kernel_rfl) (by kernel_rfl) (by kernel_rfl) ?_
  rintro G l e0 ⟨x, N, rfl, hN, he, hG⟩
  have h1 := hN.row.one
  refine ⟨noLoops, (Env.ofL [.int .i64 x]).st (encG G), rfl, rfl, ?_⟩
  refine sem_step G [tokAt x 1] (Env.ofL [N.rv]) rfl rfl ⟨x, 1, _, N.rv, rfl, cells_ptr hN.ob, rfl, hnd_nam rfl h1⟩ ?_
  refine sem_step G [N.rv] (Env.ofL [.int .i64 N.row.length]) rfl (by show [oneOf N.rv, _] = _; rw [oneOf_eq h1]; rfl) ⟨N.rv, 3, _, _, rfl, hN.sl, rfl⟩ ?_
  exact sem_retG rfl (by show _ = Value.int .i64 (e0.i 0); rw [he]; rfl) trivial (by rw [hG]; rfl)
/-- The counts. -/
def countsR (G : List Ob) (l : List Value) (e : Env) : Prop := ∃ x N, l = [tokAt x 0] ∧ IsNet G x N ∧ e.i 0 = N.sent ∧ e.i 1 = N.doubled ∧ e.i 2 = N.delivered ∧ e.i 3 = N.lost ∧ e.g gv = encG G
def countsC : Con := mkCon 14 [] (.tup (ints4 0)) 2
where ints4 (n : Nat) : List E := [.int .i64 (.var n), .int .i64 (.var (n + 1)), .int .i64 (.var (n + 2)), .int .i64 (.var (n + 3))]
def treeCounts : Tree :=
 (.call 0 7200 [(.pla (.var 0) (.lit 0) 3), (.var 199)]
 (.call 0 11200 [(.pla (.var 0) (.lit 0) 4), (.var 199)]
 (.call 0 15200 [(.pla (.var 0) (.lit 0) 5), (.var 199)]
 (.call 0 19200 [(.pla (.var 0) (.lit 0) 6), (.var 199)]
 (leafG (.tup ([(.int .i64 (.var 7200)), (.int .i64 (.var 11200)), (.int .i64 (.var 15200)), (.int .i64 (.var 19200))])) .nil 199)))))
theorem counts_holds : countsC.holds Try.prog (conR countsR) := by
  refine con_of_runG (cs := pr) (S := prS) (LT := []) (depth := 0) (fuel := 10) (nv := 200) (av := [net]) (T := treeCounts) pr_holds (by kernel_rfl) (by kernel_rfl) (by kernel_rfl) ?_
  rintro G l e0 ⟨x, N, rfl, hN, h0, h1, h2, h3, hG⟩
  refine ⟨noLoops, (Env.ofL [.int .i64 x]).st (encG G), rfl, rfl, ?_⟩
  refine sem_step G [tokAt x 3] (Env.ofL [.int .i64 N.sent]) rfl rfl ⟨x, 3, _, _, rfl, cells_ptr hN.ob, rfl, rfl⟩ ?_
  refine sem_step G [tokAt x 4] (Env.ofL [.int .i64 N.doubled]) rfl rfl ⟨x, 4, _, _, rfl, cells_ptr hN.ob, rfl, rfl⟩ ?_
  refine sem_step G [tokAt x 5] (Env.ofL [.int .i64 N.delivered]) rfl rfl ⟨x, 5, _, _, rfl, cells_ptr hN.ob, rfl, rfl⟩ ?_
  refine sem_step G [tokAt x 6] (Env.ofL [.int .i64 N.lost]) rfl rfl ⟨x, 6, _, _, rfl, cells_ptr hN.ob, rfl, rfl⟩ ?_
  exact sem_retG rfl (by show _ = Value.tuple #[.int .i64 (e0.i 0), .int .i64 (e0.i 1), .int .i64 (e0.i 2), .int .i64 (e0.i 3)]; rw [h0, h1, h2, h3]; rfl) trivial (by rw [hG]; rfl)
/-- The way of two nodes. -/
def wayB (n a b : Int) : Bool := decide (1 ≤ a ∧ a ≤ n) && decide (1 ≤ b ∧ b ≤ n) && !decide (a = b)
def betweenR (G : List Ob) (l : List Value) (e : Env) : Prop := ∃ x N a b, l = [tokAt x 0, .int .i64 a, .int .i64 b] ∧ IsNet G x N ∧ e.i 0 = intMin a b ∧ e.i 1 = intMax a b ∧ e.b 2 = wayB N.nodes a b ∧ e.g gv = encG G
def wayE (n : Nat) : List E := [.int .i64 (.var n), .int .i64 (.var (n + 1))]
def betweenC : Con := mkCon 37 [] (.tup [.agg (wayE 0), .bool (.var 2)]) 2
def treeBetween : Tree :=
 (.split (.cmp .geq (.var 1) (.lit 1))
 (.call 0 23200 [(.pla (.var 0) (.lit 0) 0), (.var 199)]
 (.split (.cmp .leq (.var 1) (.var 23200))
 (.split (.cmp .geq (.var 2) (.lit 1))
 (.call 0 49200 [(.pla (.var 0) (.lit 0) 0), (.var 199)]
 (.split (.cmp .leq (.var 2) (.var 49200))
 (leafG (.tup ([(.agg ([(.int .i64 (.mn (.var 1) (.var 2))), (.int .i64 (.mx (.var 1) (.var 2)))])), (.bool (.not (.cmp .eql (.var 1) (.var 2))))])) .nil 199)
 (leafG (.tup ([(.agg ([(.int .i64 (.mn (.var 1) (.var 2))), (.int .i64 (.mx (.var 1) (.var 2)))])), (.bool (.lit false))])) .nil 199)))
 (leafG (.tup ([(.agg ([(.int .i64 (.mn (.var 1) (.var 2))), (.int .i64 (.mx (.var 1) (.var 2)))])), (.bool (.lit false))])) .nil 199))
 (leafG (.tup ([(.agg ([(.int .i64 (.mn (.var 1) (.var 2))), (.int .i64 (.mx (.var 1) (.var 2)))])), (.bool (.lit false))])) .nil 199)))
 (leafG (.tup ([(.agg ([(.int .i64 (.mn (.var 1) (.var 2))), (.int .i64 (.mx (.var 1) (.var 2)))])), (.bool (.lit false))])) .nil 199))
theorem between_holds : betweenC.holds Try.prog (conR betweenR) := by
  refine con_of_runG (cs := pr) (S := prS) (LT := []) (depth := 1) (fuel := 10) (nv := 200) (av := [net, .int .i64 (.var 1), .int .i64 (.var 2)]) (T := treeBetween) pr_holds (by kernel_rfl) (by kernel_rfl) (by kernel_rfl) ?_
  rintro G l e0 ⟨x, N, a, b, rfl, hN, h0, h1, h2, hG⟩
  refine ⟨noLoops, (Env.ofL [.int .i64 x, .int .i64 a, .int .i64 b]).st (encG G), rfl, rfl, ?_⟩
  have fin : ∀ (ρ : Env) (c : C) (h : Tr (List E)), ρ.i 1 = a → ρ.i 2 = b → c.den ρ = wayB N.nodes a b → ρ.g 199 = encG G →
      treeSem prS noLoops (KF [] (.tup [.agg (wayE 0), .bool (.var 2)]) e0 2) ρ (leafG (.tup [.agg [.int .i64 (.mn (.var 1) (.var 2)), .int .i64 (.mx (.var 1) (.var 2))], .bool c]) h 199) := fun ρ c h e1 e2 e3 e4 => by
    refine sem_retG rfl ?_ trivial (by rw [hG, e4])
    show Value.tuple #[.agg #[.int .i64 (intMin (ρ.i 1) (ρ.i 2)), .int .i64 (intMax (ρ.i 1) (ρ.i 2))], .bool (c.den ρ)] = Value.tuple #[.agg #[.int .i64 (e0.i 0), .int .i64 (e0.i 1)], .bool (e0.b 2)]
    rw [e1, e2, e3, h0, h1, h2]
  refine sem_split (fun h => ?_) (fun h => ?_)
  · have g1 : a ≥ 1 := of_decide_eq_true h
    refine sem_step G [tokAt x 0] (Env.ofL [.int .i64 N.nodes]) rfl rfl ⟨x, 0, _, _, rfl, cells_ptr hN.ob, rfl, rfl⟩ ?_
    refine sem_split (fun h => ?_) (fun h => ?_)
    · have g2 : a ≤ N.nodes := of_decide_eq_true h
      refine sem_split (fun h => ?_) (fun h => ?_)
      · have g3 : b ≥ 1 := of_decide_eq_true h
        refine sem_step G [tokAt x 0] (Env.ofL [.int .i64 N.nodes]) rfl rfl ⟨x, 0, _, _, rfl, cells_ptr hN.ob, rfl, rfl⟩ ?_
        refine sem_split (fun h => ?_) (fun h => ?_)
        · have g4 : b ≤ N.nodes := of_decide_eq_true h
          refine fin _ _ _ rfl rfl ?_ rfl
          show (!(a == b)) = _
          unfold wayB
          rw [decide_eq_true (show 1 ≤ a ∧ a ≤ N.nodes by omega), decide_eq_true (show 1 ≤ b ∧ b ≤ N.nodes by omega)]
          by_cases e : a = b <;> simp [e]
        · have g4 : ¬ b ≤ N.nodes := of_decide_eq_false h
          refine fin _ _ _ rfl rfl ?_ rfl
          unfold wayB
          rw [decide_eq_false (show ¬ (1 ≤ b ∧ b ≤ N.nodes) by omega)]
          simp [C.den]
      · have g3 : ¬ b ≥ 1 := of_decide_eq_false h
        refine fin _ _ _ rfl rfl ?_ rfl
        unfold wayB
        rw [decide_eq_false (show ¬ (1 ≤ b ∧ b ≤ N.nodes) by omega)]
        simp [C.den]
    · have g2 : ¬ a ≤ N.nodes := of_decide_eq_false h
      refine fin _ _ _ rfl rfl ?_ rfl
      unfold wayB
      rw [decide_eq_false (show ¬ (1 ≤ a ∧ a ≤ N.nodes) by omega)]
      simp [C.den]
  · have g1 : ¬ a ≥ 1 := of_decide_eq_false h
    refine fin _ _ _ rfl rfl ?_ rfl
    unfold wayB
    rw [decide_eq_false (show ¬ (1 ≤ a ∧ a ≤ N.nodes) by omega)]
    simp [C.den]
end Go.Proofs.Yteklnfajpignoaa
