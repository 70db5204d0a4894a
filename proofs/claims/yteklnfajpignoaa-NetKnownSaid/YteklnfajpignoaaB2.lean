/- What is proved: what a net is, in names of objects; the contract of bytes.Clone. No condition. -/
import Derived.Test.YteklnfajpignoaaB1
namespace Go.Proofs.Yteklnfajpignoaa
open Go.RowKit Sx
set_option maxRecDepth 100000

/-- A contract on the store out of a run. -/
theorem con_of_runG {P : Program} {cs : List Con} {S : List ConS} (hC : Cons P cs S) (hm : P.follows .mixedOrders = true) {LT : List (Nat × LS)} {depth fuel nv : Nat} {f : FuncId} {ptrs : List (Nat × Nat × Option (List E))} {res : E} {av : List E} {R : List Ob → List Value → Env → Prop} {T : Tree}
    (hchk : (chkCon ptrs res 2 && Sole ptrs && okG 2 ptrs av && decide (f < primBase)) = true) (hT : runF P cs LT depth fuel f 2 nv (barePtrs ptrs) av = T)
    (hdec : ∀ G l e0, R G l e0 → ∃ LQ ρ, l = E.nams ρ lay0 av ∧ ρ.g (nv - 1) = encG G ∧ treeSem S LQ (KF ptrs res e0 2) ρ T) : (mkCon f ptrs res 2).holds P (conR R) := by
  refine con_of_run hC hm hchk hT fun vs g e0 hs => ?_
  obtain ⟨G, l, hvs, hR⟩ := hs
  obtain ⟨rfl, rfl⟩ := store_last l hvs
  exact hdec G vs e0 hR
theorem wr_of {P : Program} {c : Con} {R : List Ob → List Value → Env → Prop} (k : Nat) (h : c.holds P (conR R)) (hx : ∀ G l e, R G l e → ∃ G', e.g gv = encG G' ∧ extG k G G') : ({ c with wr := k } : Con).holds P (conR R) :=
  holds_wr k h fun vs g e ⟨G, l, hvs, hR⟩ => by
    obtain ⟨rfl, rfl⟩ := store_last l hvs
    obtain ⟨G', h1, h2⟩ := hx G vs e hR
    rw [h1]
    exact ext_enc h2
/-- Bytes that stay. -/
def Body (G : List Ob) (v : Value) (bs : List Int) : Prop := (v = .slice none 0 0 ∧ bs = []) ∨ ∃ k, v = tok k ∧ G[k]? = some (.ro 1 bs.length (bs.map (Value.int .u8)))
structure Lt where
  f : Int
  t : Int
  v : Value
  bs : List Int
def Lt.cells (l : Lt) : List Value := [.int .i64 l.f, .int .i64 l.t, l.v]
def rowC (r : List Lt) : List Value := (r.map Lt.cells).flatten
structure NetM where
  nodes : Int
  row : List Lt
  cuts : List (Value × Value)
  sent : Int
  doubled : Int
  delivered : Int
  lost : Int
  rv : Value
  m : Nat
def NetM.cells (N : NetM) : List Value := [.int .i64 N.nodes, N.rv, tok N.m, .int .i64 N.sent, .int .i64 N.doubled, .int .i64 N.delivered, .int .i64 N.lost]
/-- A net in the store. -/
structure IsNet (G : List Ob) (x : Nat) (N : NetM) : Prop where
  ob : G[x]? = some (.ptr N.cells)
  row : Dst G N.rv 3 N.row.length (rowC N.row)
  body : ∀ l ∈ N.row, Body G l.v l.bs ∧ l.bs.length ≤ 400
  map : G[N.m]? = some (.map N.cuts)
  keys : ∀ p ∈ N.cuts, IntsKey 2 .i64 p.1 ∧ ∃ b, p.2 = .bool b
  len : N.row.length ≤ 1000
/-- Only the net turns. -/
def Fram (x : Nat) (N : NetM) (G G' : List Ob) : Prop := G.length ≤ G'.length ∧ ∀ (n : Nat) o, G[n]? = some o → n ≠ x → n ≠ N.m → N.rv ≠ tok n → G'[n]? = some o
theorem Body.sl {G : List Ob} {v : Value} {bs : List Int} (h : Body G v bs) : Sl G v 1 bs.length (bs.map (Value.int .u8)) := by
  rcases h with ⟨rfl, rfl⟩ | ⟨k, rfl, h⟩
  · exact .inl ⟨rfl, rfl, rfl⟩
  · refine .inr ⟨k, 0, _, ⟨k, rfl, .inl ⟨_, .inr h, rfl, rfl⟩⟩, by unfold cellsAt; rw [h]; rfl, by simp, by simp [List.take_of_length_le]⟩
theorem Body.one {G : List Ob} {v : Value} {bs : List Int} (h : Body G v bs) : v.oneCell' = true := h.sl.one
/-- A copy of bytes: the store, and the copy. -/
def cloneG (fz : Bool) (G : List Ob) (v : Value) (n : Nat) (cells : List Value) : List Ob := if isNil v then G else if n = 0 then G ++ [mkRow fz 1 0 []] else G ++ [.dead] ++ [mkRow fz 1 n cells]
def cloneV (G : List Ob) (v : Value) (n : Nat) : Value := if isNil v then .slice none 0 0 else if n = 0 then tok G.length else tok (G.length + 1)
def cloneR (G : List Ob) (l : List Value) (e : Env) : Prop := ∃ (fz : Bool) (v : Value) (n : Nat) (cells : List Value), l = [v] ∧ Sl G v 1 n cells ∧ n ≤ 1000000 ∧ e.v 0 = cloneV G v n ∧ e.g gv = encG (cloneG fz G v n cells)
theorem cloneG_ext (fz : Bool) (G : List Ob) (v : Value) (n : Nat) (cells : List Value) : ∃ X, cloneG fz G v n cells = G ++ X := by
  unfold cloneG
  split
  · exact ⟨[], by simp⟩
  · split
    · exact ⟨_, rfl⟩
    · exact ⟨_, List.append_assoc _ _ _⟩
theorem cloneV_one (G : List Ob) (v : Value) (n : Nat) : (cloneV G v n).oneCell' = true := by unfold cloneV; split <;> (try split) <;> rfl
/-- What the copy is. -/
theorem clone_ro {G : List Ob} {v : Value} {bs : List Int} (h : Sl G v 1 bs.length (bs.map (Value.int .u8))) : Body (cloneG true G v bs.length (bs.map (Value.int .u8))) (cloneV G v bs.length) bs := by
  unfold cloneG cloneV
  rcases h with ⟨rfl, h1, h2⟩ | ⟨m, k, all, ⟨n, rfl, _⟩, _⟩
  · exact .inl ⟨rfl, by simpa using h1⟩
  · have hn : isNil (tok n) = false := rfl
    simp only [hn, Bool.false_eq_true, if_false]
    right
    by_cases h0 : bs.length = 0
    · have : bs = [] := List.length_eq_zero_iff.1 h0
      subst this
      exact ⟨_, by simp; rfl, by simp [mkRow]⟩
    · simp only [if_neg h0]
      exact ⟨_, rfl, by rw [List.getElem?_append_right (by simp)]; simp [mkRow]⟩
theorem clone_row {G : List Ob} {v : Value} {n : Nat} {cells : List Value} (h : Sl G v 1 n cells) : Dst (cloneG false G v n cells) (cloneV G v n) 1 n cells := by
  have hl := h.length
  unfold cloneG cloneV
  rcases h with ⟨rfl, h1, h2⟩ | ⟨m, k, all, ⟨j, rfl, _⟩, _⟩
  · exact .inl ⟨rfl, h1, h2⟩
  · have hn : isNil (tok j) = false := rfl
    simp only [hn, Bool.false_eq_true, if_false]
    right
    by_cases h0 : n = 0
    · subst h0
      have : cells = [] := List.length_eq_zero_iff.1 (by simpa using hl)
      subst this
      exact ⟨_, by simp; rfl, by simp [mkRow]⟩
    · simp only [if_neg h0]
      exact ⟨_, rfl, by rw [List.getElem?_append_right (by simp)]; simp [mkRow]⟩
def cloneC : Con := { mkCon 34 [] (.hnd 0) 2 with wr := 1 }
def treeClone : Tree :=
 (.call 19 2200 [(.hnd 0), (.lit (.slice none 0 0)), (.var 199)]
 (.split (.var 2200)
 (leafG (.lit (.slice none 0 0)) .nil 199)
 (.call 14 3200 [(.var 199)]
 (.call 13 5200 [(.hnd 3200), (.hnd 0), (.var 4199)]
 (leafG (.hnd 5200) .nil 6199)))))
theorem nil_or {G : List Ob} {v : Value} {s n : Nat} {cells : List Value} (h : Sl G v s n cells) : (v = .slice none 0 0 ∧ isNil v = true) ∨ ((∃ k, v = tok k) ∧ isNil v = false) := by
  rcases h with ⟨rfl, _, _⟩ | ⟨m, k, all, ⟨n, rfl, _⟩, _⟩
  · exact .inl ⟨rfl, rfl⟩
  · exact .inr ⟨⟨n, rfl⟩, rfl⟩
theorem clone_holds : cloneC.holds Try.prog (conR cloneR) := by
  refine wr_of 1 (con_of_runG (cs := pr) (S := prS) (LT := []) (depth := 0) (fuel := 10) (nv := 200) (av := [.hnd 0]) (T := treeClone) pr_holds (by kernel_rfl) (by kernel_rfl) (by kernel_rfl) ?_) ?_
  · rintro G l e0 ⟨fz, v, n, cells, rfl, hsl, hn, he, hG⟩
    have h1 := hsl.one
    refine ⟨noLoops, (Env.ofL [v]).st (encG G), ?_, rfl, ?_⟩
    · show [v] = [oneOf v]
      rw [oneOf_eq h1]
    refine sem_step G [v, .slice none 0 0] (Env.ofL [.bool (isNil v)]) rfl (by show [oneOf v, _, _] = _; rw [oneOf_eq h1]; rfl) ⟨v, .slice none 0 0, isNil v, rfl, ⟨rfl, rfl, _, _, _, hsl⟩, by show isNil v = _; simp⟩ ?_
    refine sem_split (fun h => ?_) (fun h => ?_)
    · have hv : isNil v = true := h
      refine sem_retG rfl (by show _ = oneOf (e0.v 0); rw [he, cloneV, if_pos hv]; rfl) trivial (by rw [hG, cloneG, if_pos hv]; rfl)
    · have hv : isNil v = false := h
      have hvn : ¬ isNil v = true := by rw [hv]; simp
      have hl := hsl.length
      by_cases h0 : n = 0
      · subst h0
        have : cells = [] := List.length_eq_zero_iff.1 (by simpa using hl)
        subst this
        refine sem_step G [] ((Env.ofL [tok G.length]).ans (encG (G ++ [mkRow fz 1 0 []]))) rfl rfl ⟨fz, [], rfl, rfl, fun v hv => (by cases hv), rfl, rfl⟩ ?_
        refine sem_step (G ++ [mkRow fz 1 0 []]) [tok G.length, v] ((Env.ofL [tok G.length]).ans (encG (G ++ [mkRow fz 1 0 []]))) rfl (by show [_, oneOf v, _] = _; rw [oneOf_eq h1]; rfl)
          ⟨_, v, 0, 0, [], [], rfl, hsl.append, by omega, by omega, .inl ⟨rfl, ?_, rfl, rfl⟩⟩ ?_
        · refine .inr ⟨G.length, 0, [], ⟨G.length, rfl, .inl ⟨[], ?_, rfl, rfl⟩⟩, ?_, by simp, by simp⟩
          · cases fz <;> simp [mkRow]
          · unfold cellsAt; cases fz <;> simp [mkRow, Ob.cells?]
        · exact sem_retG rfl (by show _ = oneOf (e0.v 0); rw [he, cloneV, if_neg hvn, if_pos rfl]; rfl) trivial (by rw [hG, cloneG, if_neg hvn, if_pos rfl]; rfl)
      · refine sem_step G [] ((Env.ofL [tok G.length]).ans (encG (G ++ [mkRow false 1 0 []]))) rfl rfl ⟨false, [], rfl, rfl, fun v hv => (by cases hv), rfl, rfl⟩ ?_
        have hk : killV (G ++ [mkRow false 1 0 []]) (tok G.length) = G ++ [.dead] := by
          rw [killV_tok, List.set_append_right _ _ (Nat.le_refl _)]
          simp
        refine sem_step (G ++ [mkRow false 1 0 []]) [tok G.length, v] ((Env.ofL [tok (G.length + 1)]).ans (encG (G ++ [.dead] ++ [mkRow fz 1 n cells]))) rfl (by show [_, oneOf v, _] = _; rw [oneOf_eq h1]; rfl)
          ⟨_, v, 0, n, [], cells, rfl, hsl.append, by omega, by omega, .inr ⟨by omega, .inr ⟨_, rfl, by simp [mkRow]⟩, ?_, fz, ?_⟩⟩ ?_
        · show tok (G.length + 1) = tok _
          simp
        · rw [hk, Nat.zero_add, List.nil_append]
          rfl
        · exact sem_retG rfl (by show _ = oneOf (e0.v 0); rw [he, cloneV, if_neg hvn, if_neg h0]; rfl) trivial (by rw [hG, cloneG, if_neg hvn, if_neg h0]; rfl)
  · rintro G l e ⟨fz, v, n, cells, rfl, _, _, _, hG⟩
    obtain ⟨X, hX⟩ := cloneG_ext fz G v n cells
    exact ⟨_, hG, X, hX⟩
end Go.Proofs.Yteklnfajpignoaa
