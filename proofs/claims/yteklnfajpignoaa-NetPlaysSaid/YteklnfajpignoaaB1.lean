/- What is proved: which operations on objects the code of layer 27 has, and what they do; what a net is, in names of objects; the contract of bytes.Clone; the contracts of a net's New, Waits, Counts, Look, between and lay. No condition but those each law names. -/
import Derived.Test.YteklnfajpignoaaSzE
import Derived.Test.YteklnfajpignoaaProg
namespace Go.Proofs.Yteklnfajpignoaa
open Go.RowKit Sx
set_option maxRecDepth 100000

def letE (n : Nat) : List E := [.int .i64 (.var n), .int .i64 (.var (n + 1)), .hnd (n + 2)]
/-- The operations that the net's functions have. -/
def pr : List Con := [loadC 3 (.int .i64 (.var 0)), loadC 51 (.hnd 0), loadC 61 (.hnd 0), loadC 42 (.agg (letE 0)), loadC 30 (.hnd 0), lenC 51, lenC 30, idxC 51, storeC 3, storeC 51, storeC 30, appC 51, bsC 51 1, appC 30, bsC 30 0, boxC 63, mmC 61, upC 61, luC 61 (.bool (.var 0)), eqC 30]
def prS : List ConS := [conR (loadR (.int .i64 (.var 0))), conR (loadR (.hnd 0)), conR (loadR (.hnd 0)), conR (loadRowR 3 (.agg (letE 0))), conR (loadR (.hnd 0)), conR lenR, conR lenR, conR (idxR 3), conR (storeR 1), conR (storeR 1), conR (storeR 1),
  conR (appR 3 40), conR (bsR 3 1), conR (appR 1 1), conR (bsR 1 0), conR boxR, conR mmR, conR (upR (IntsKey 2 .i64)), conR (luR (IntsKey 2 .i64) (.bool false) (.bool (.var 0))), conR (CmpR NilSl false)]
theorem key69 : KeyT Try.prog 69 (IntsKey 2 .i64) := keyInts_ok (s := 1) (b := 8) (z := .int .i64 0) Try.underlying69 (by kernel_rfl) Try.underlying3 (by kernel_rfl)
theorem pr_holds : Cons Try.prog pr prS :=
  ⟨load_holds (by kernel_rfl) rfl, load_holds (by kernel_rfl) rfl, load_holds (by kernel_rfl) rfl, loadRow_holds (by kernel_rfl) (by kernel_rfl) rfl, load_holds (by kernel_rfl) rfl,
    len_holds Try.underlying51, len_holds Try.underlying30, idx_holds Try.underlying51 (by kernel_rfl), store_holds (by kernel_rfl), store_holds (by kernel_rfl), store_holds (by kernel_rfl),
    app_ok (z := .agg #[.int .i64 0, .int .i64 0, .slice none 0 0]) Try.underlying51 (by kernel_rfl) rfl, bs_ok (b := 40) (z := .agg #[.int .i64 0, .int .i64 0, .slice none 0 0]) Try.underlying51 (by kernel_rfl) rfl,
    app_ok (z := .int .u8 0) Try.underlying30 (by kernel_rfl) rfl, bs_ok (b := 1) (z := .int .u8 0) Try.underlying30 (by kernel_rfl) rfl, box_holds, mm_holds, up_holds Try.underlying61 key69,
    lu_ok (s := 1) (b := 1) (z := .bool false) Try.underlying61 key69 (by kernel_rfl) (fun _ => rfl) rfl, (slice_holds Try.underlying30).1, trivial⟩
end Go.Proofs.Yteklnfajpignoaa

namespace Go.Proofs.Yteklnfajpignoaa
open Go.RowKit Sx
set_option maxRecDepth 100000

/-- A contract on the store out of a run. -/
theorem con_of_runG {P : Program} {cs : List Con} {S : List ConS} (hC : Cons P cs S) (hm : P.follows .mixedOrders = true) {LT : List (Nat × LS)} {depth fuel nv : Nat} {f : FuncId} {ptrs : List (Nat × Nat × Option (List E))} {res : E} {av : List E} {R : List Ob → List Value → Env → Prop} {T : Tree}
    (hchk : (chkCon ptrs res 2 && Sole ptrs && okG 2 ptrs av && decide (f < primBase)) = true) (hT : runF P cs LT depth fuel f 2 nv (barePtrs ptrs) av = T)
    (hdec : ∀ G l e0, R G l e0 → ∃ LQ ρ, l = E.nams ρ lay0 av ∧ ρ.g (nv - 1) = encG G ∧ treeSem S LQ (KF ptrs res e0 2) ρ T) : (mkCon f ptrs res 2).holds P (conR R) := by
  refine con_of_run hC hm hchk hT fun vs g e0 hs => ?_
  obtain ⟨G, l, hvs, hR⟩ := hs
  obtain ⟨rfl, rfl⟩ := store_last l hvs
  exact hdec G vs e0 hR
theorem wr_of {P : Program} {c : Con} {R : List Ob → List Value → Env → Prop} (k : Nat) (h : c.holds P (conR R)) (hx : ∀ G l e, R G l e → ∃ G', e.g gv = encG G' ∧ extG k G G') : ({ c with wr := k } : Con).holds P (conR R) :=
  holds_wr k h fun vs g e ⟨G, l, hvs, hR⟩ => by
    obtain ⟨rfl, rfl⟩ := store_last l hvs
    obtain ⟨G', h1, h2⟩ := hx G vs e hR
    rw [h1]
    exact ext_enc h2
/-- Bytes that stay. -/
def Body (G : List Ob) (v : Value) (bs : List Int) : Prop := (v = .slice none 0 0 ∧ bs = []) ∨ ∃ k, v = tok k ∧ G[k]? = some (.ro 1 bs.length (bs.map (Value.int .u8)))
structure Lt where
  f : Int
  t : Int
  v : Value
  bs : List Int
def Lt.cells (l : Lt) : List Value := [.int .i64 l.f, .int .i64 l.t, l.v]
def rowC (r : List Lt) : List Value := (r.map Lt.cells).flatten
structure NetM where
  nodes : Int
  row : List Lt
  cuts : List (Value × Value)
  sent : Int
  doubled : Int
  delivered : Int
  lost : Int
  rv : Value
  m : Nat
def NetM.cells (N : NetM) : List Value := [.int .i64 N.nodes, N.rv, tok N.m, .int .i64 N.sent, .int .i64 N.doubled, .int .i64 N.delivered, .int .i64 N.lost]
/-- A net in the store. -/
structure IsNet (G : List Ob) (x : Nat) (N : NetM) : Prop where
  ob : G[x]? = some (.ptr N.cells)
  row : Dst G N.rv 3 N.row.length (rowC N.row)
  body : ∀ l ∈ N.row, Body G l.v l.bs ∧ l.bs.length ≤ 400
  map : G[N.m]? = some (.map N.cuts)
  keys : ∀ p ∈ N.cuts, IntsKey 2 .i64 p.1 ∧ ∃ b, p.2 = .bool b
  len : N.row.length ≤ 1000
/-- Only the net turns. -/
def Fram (x : Nat) (N : NetM) (G G' : List Ob) : Prop := G.length ≤ G'.length ∧ ∀ (n : Nat) o, G[n]? = some o → n ≠ x → n ≠ N.m → N.rv ≠ tok n → G'[n]? = some o
theorem Body.sl {G : List Ob} {v : Value} {bs : List Int} (h : Body G v bs) : Sl G v 1 bs.length (bs.map (Value.int .u8)) := by
  rcases h with ⟨rfl, rfl⟩ | ⟨k, rfl, h⟩
  · exact .inl ⟨rfl, rfl, rfl⟩
  · refine .inr ⟨k, 0, _, ⟨k, rfl, .inl ⟨_, .inr h, rfl, rfl⟩⟩, by unfold cellsAt; rw [h]; rfl, by simp, by simp [List.take_of_length_le]⟩
theorem Body.one {G : List Ob} {v : Value} {bs : List Int} (h : Body G v bs) : v.oneCell' = true := h.sl.one
/-- A copy of bytes: the store, and the copy. -/
def cloneG (fz : Bool) (G : List Ob) (v : Value) (n : Nat) (cells : List Value) : List Ob := if isNil v then G else if n = 0 then G ++ [mkRow fz 1 0 []] else G ++ [.dead] ++ [mkRow fz 1 n cells]
def cloneV (G : List Ob) (v : Value) (n : Nat) : Value := if isNil v then .slice none 0 0 else if n = 0 then tok G.length else tok (G.length + 1)
def cloneR (G : List Ob) (l : List Value) (e : Env) : Prop := ∃ (fz : Bool) (v : Value) (n : Nat) (cells : List Value), l = [v] ∧ Sl G v 1 n cells ∧ n ≤ 1000000 ∧ e.v 0 = cloneV G v n ∧ e.g gv = encG (cloneG fz G v n cells)
theorem cloneG_ext (fz : Bool) (G : List Ob) (v : Value) (n : Nat) (cells : List Value) : ∃ X, cloneG fz G v n cells = G ++ X := by
  unfold cloneG
  split
  · exact ⟨[], by simp⟩
  · split
    · exact ⟨_, rfl⟩
    · exact ⟨_, List.append_assoc _ _ _⟩
theorem cloneV_one (G : List Ob) (v : Value) (n : Nat) : (cloneV G v n).oneCell' = true := by unfold cloneV; split <;> (try split) <;> rfl
/-- What the copy is. -/
theorem clone_ro {G : List Ob} {v : Value} {bs : List Int} (h : Sl G v 1 bs.length (bs.map (Value.int .u8))) : Body (cloneG true G v bs.length (bs.map (Value.int .u8))) (cloneV G v bs.length) bs := by
  unfold cloneG cloneV
  rcases h with ⟨rfl, h1, h2⟩ | ⟨m, k, all, ⟨n, rfl, _⟩, _⟩
  · exact .inl ⟨rfl, by simpa using h1⟩
  · have hn : isNil (tok n) = false := rfl
    simp only [hn, Bool.false_eq_true, if_false]
    right
    by_cases h0 : bs.length = 0
    · have : bs = [] := List.length_eq_zero_iff.1 h0
      subst this
      exact ⟨_, by simp; rfl, by simp [mkRow]⟩
    · simp only [if_neg h0]
      exact ⟨_, rfl, by rw [List.getElem?_append_right (by simp)]; simp [mkRow]⟩
theorem clone_row {G : List Ob} {v : Value} {n : Nat} {cells : List Value} (h : Sl G v 1 n cells) : Dst (cloneG false G v n cells) (cloneV G v n) 1 n cells := by
  have hl := h.length
  unfold cloneG cloneV
  rcases h with ⟨rfl, h1, h2⟩ | ⟨m, k, all, ⟨j, rfl, _⟩, _⟩
  · exact .inl ⟨rfl, h1, h2⟩
  · have hn : isNil (tok j) = false := rfl
    simp only [hn, Bool.false_eq_true, if_false]
    right
    by_cases h0 : n = 0
    · subst h0
      have : cells = [] := List.length_eq_zero_iff.1 (by simpa using hl)
      subst this
      exact ⟨_, by simp; rfl, by simp [mkRow]⟩
    · simp only [if_neg h0]
      exact ⟨_, rfl, by rw [List.getElem?_append_right (by simp)]; simp [mkRow]⟩
def cloneC : Con := { mkCon 34 [] (.hnd 0) 2 with wr := 1 }
def treeClone : Tree :=
 (.call 19 2200 [(.hnd 0), (.lit (.slice none 0 0)), (.var 199)]
 (.split (.var 2200)
 (leafG (.lit (.slice none 0 0)) .nil 199)
 (.call 14 3200 [(.var 199)]
 (.call 13 5200 [(.hnd 3200), (.hnd 0), (.var 4199)]
 (leafG (.hnd 5200) .nil 6199)))))
theorem nil_or {G : List Ob} {v : Value} {s n : Nat} {cells : List Value} (h : Sl G v s n cells) : (v = .slice none 0 0 ∧ isNil v = true) ∨ ((∃ k, v = tok k) ∧ isNil v = false) := by
  rcases h with ⟨rfl, _, _⟩ | ⟨m, k, all, ⟨n, rfl, _⟩, _⟩
  · exact .inl ⟨rfl, rfl⟩
  · exact .inr ⟨⟨n, rfl⟩, rfl⟩
theorem clone_holds : cloneC.holds Try.prog (conR cloneR) := by
  refine wr_of 1 (con_of_runG (cs := pr) (S := prS) (LT := []) (depth := 0) (fuel := 10) (nv := 200) (av := [.hnd 0]) (T := treeClone) pr_holds (by kernel_rfl) (by kernel_rfl) (by kernel_rfl) ?_) ?_
  · rintro G l e0 ⟨fz, v, n, cells, rfl, hsl, hn, he, hG⟩
    have h1 := hsl.one
    refine ⟨noLoops, (Env.ofL [v]).st (encG G), ?_, rfl, ?_⟩
    · show [v] = [oneOf v]
      rw [oneOf_eq h1]
    refine sem_step G [v, .slice none 0 0] (Env.ofL [.bool (isNil v)]) rfl (by show [oneOf v, _, _] = _; rw [oneOf_eq h1]; rfl) ⟨v, .slice none 0 0, isNil v, rfl, ⟨rfl, rfl, _, _, _, hsl⟩, by show isNil v = _; simp⟩ ?_
    refine sem_split (fun h => ?_) (fun h => ?_)
    · have hv : isNil v = true := h
      refine sem_retG rfl (by show _ = oneOf (e0.v 0); rw [he, cloneV, if_pos hv]; rfl) trivial (by rw [hG, cloneG, if_pos hv]; rfl)
    · have hv : isNil v = false := h
      have hvn : ¬ isNil v = true := by rw [hv]; simp
      have hl := hsl.length
      by_cases h0 : n = 0
      · subst h0
        have : cells = [] := List.length_eq_zero_iff.1 (by simpa using hl)
        subst this
        refine sem_step G [] ((Env.ofL [tok G.length]).ans (encG (G ++ [mkRow fz 1 0 []]))) rfl rfl ⟨fz, [], rfl, rfl, fun v hv => (by cases hv), rfl, rfl⟩ ?_
        refine sem_step (G ++ [mkRow fz 1 0 []]) [tok G.length, v] ((Env.ofL [tok G.length]).ans (encG (G ++ [mkRow fz 1 0 []]))) rfl (by show [_, oneOf v, _] = _; rw [oneOf_eq h1]; rfl)
          ⟨_, v, 0, 0, [], [], rfl, hsl.append, by omega, by omega, .inl ⟨rfl, ?_, rfl, rfl⟩⟩ ?_
        · refine .inr ⟨G.length, 0, [], ⟨G.length, rfl, .inl ⟨[], ?_, rfl, rfl⟩⟩, ?_, by simp, by simp⟩
          · cases fz <;> simp [mkRow]
          · unfold cellsAt; cases fz <;> simp [mkRow, Ob.cells?]
        · exact sem_retG rfl (by show _ = oneOf (e0.v 0); rw [he, cloneV, if_neg hvn, if_pos rfl]; rfl) trivial (by rw [hG, cloneG, if_neg hvn, if_pos rfl]; rfl)
      · refine sem_step G [] ((Env.ofL [tok G.length]).ans (encG (G ++ [mkRow false 1 0 []]))) rfl rfl ⟨false, [], rfl, rfl, fun v hv => (by cases hv), rfl, rfl⟩ ?_
        have hk : killV (G ++ [mkRow false 1 0 []]) (tok G.length) = G ++ [.dead] := by
          rw [killV_tok, List.set_append_right _ _ (Nat.le_refl _)]
          simp
        refine sem_step (G ++ [mkRow false 1 0 []]) [tok G.length, v] ((Env.ofL [tok (G.length + 1)]).ans (encG (G ++ [.dead] ++ [mkRow fz 1 n cells]))) rfl (by show [_, oneOf v, _] = _; rw [oneOf_eq h1]; rfl)
          ⟨_, v, 0, n, [], cells, rfl, hsl.append, by omega, by omega, .inr ⟨by omega, .inr ⟨_, rfl, by simp [mkRow]⟩, ?_, fz, ?_⟩⟩ ?_
        · show tok (G.length + 1) = tok _
          simp
        · rw [hk, Nat.zero_add, List.nil_append]
          rfl
        · exact sem_retG rfl (by show _ = oneOf (e0.v 0); rw [he, cloneV, if_neg hvn, if_neg h0]; rfl) trivial (by rw [hG, cloneG, if_neg hvn, if_neg h0]; rfl)
  · rintro G l e ⟨fz, v, n, cells, rfl, _, _, _, hG⟩
    obtain ⟨X, hX⟩ := cloneG_ext fz G v n cells
    exact ⟨_, hG, X, hX⟩
end Go.Proofs.Yteklnfajpignoaa

namespace Go.Proofs.Yteklnfajpignoaa
open Go.RowKit Sx
set_option maxRecDepth 100000

theorem hnd_nam {e : Env} {c : Value} (h : e.v 0 = c) (h1 : c.oneCell' = true) : (E.hnd 0).nam e lay0 = c := by
  show oneOf (e.v 0) = c
  rw [h, oneOf_eq h1]
theorem cells_ptr {G : List Ob} {n : Nat} {cells : List Value} (h : G[n]? = some (.ptr cells)) : cellsAt G n = some cells := by unfold cellsAt; rw [h]; rfl
theorem cells_row {G : List Ob} {n s len : Nat} {cells : List Value} (h : G[n]? = some (.row s len cells)) : cellsAt G n = some cells := by unfold cellsAt; rw [h]; rfl
theorem dst_sl {G : List Ob} {v : Value} {s len : Nat} {xs : List Value} (h : Dst G v s len xs) (hl : xs.length = len * s) : Sl G v s len xs := by
  rcases h with h | ⟨d, rfl, h⟩
  · exact .inl h
  · refine .inr ⟨d, 0, xs, ⟨d, rfl, .inl ⟨xs, .inl h, rfl, rfl⟩⟩, cells_row h, by omega, ?_⟩
    rw [List.drop_zero, List.take_of_length_le (by omega)]
theorem rowC_length (r : List Lt) : (rowC r).length = r.length * 3 := by
  induction r with
  | nil => rfl
  | cons l r ih =>
    show (l.cells ++ rowC r).length = _
    rw [List.length_append, ih, List.length_cons]
    show 3 + _ = _
    omega
theorem IsNet.sl {G : List Ob} {x : Nat} {N : NetM} (h : IsNet G x N) : Sl G N.rv 3 N.row.length (rowC N.row) := dst_sl h.row (rowC_length _)
theorem getElem_flat {r : List Lt} {k : Nat} {l : Lt} (h : r[k]? = some l) : ((rowC r).drop (k * 3)).take 3 = l.cells := by
  induction r generalizing k with
  | nil => simp at h
  | cons a r ih =>
    show ((a.cells ++ rowC r).drop (k * 3)).take 3 = _
    cases k with
    | zero =>
      simp at h
      subst h
      rw [Nat.zero_mul, List.drop_zero]
      rfl
    | succ k =>
      rw [show (k + 1) * 3 = a.cells.length + k * 3 by show _ = 3 + k * 3; omega, ← List.drop_drop, List.drop_left]
      exact ih (by simpa using h)
/-- New. -/
def newNet (n : Int) (m : Nat) : NetM := ⟨n, [], [], 0, 0, 0, 0, .slice none 0 0, m⟩
def newG (G : List Ob) (n : Int) : List Ob := if n < 1 ∨ 32 < n then G else G ++ [.map []] ++ [.ptr (newNet n G.length).cells]
def newV (G : List Ob) (n : Int) : Value := if n < 1 ∨ 32 < n then .pointer none else tokAt (G.length + 1) 0
def newR (G : List Ob) (l : List Value) (e : Env) : Prop := ∃ n, l = [.int .i64 n] ∧ e.v 0 = newV G n ∧ e.g gv = encG (newG G n)
def newC : Con := mkCon 7 [] (.hnd 0) 2
def treeNew : Tree :=
 (.split (.cmp .lss (.var 0) (.lit 1))
 (leafG (.lit (.pointer none)) .nil 199)
 (.split (.cmp .gtr (.var 0) (.lit 32))
 (leafG (.lit (.pointer none)) .nil 199)
 (.call 16 8200 [(.var 199)]
 (.call 15 10200 [(.agg (cats [[(.int .i64 (.var 0)), (.lit (.slice none 0 0)), (.hnd 8200)], rep 4 (.int .i64 (.lit 0))])), (.var 9199)]
 (leafG (.pla (.var 10200) (.lit 0) 0) .nil 11199)))))
theorem new_holds : newC.holds Try.prog (conR newR) := by
  refine con_of_runG (cs := pr) (S := prS) (LT := []) (depth := 0) (fuel := 10) (nv := 200) (av := [.int .i64 (.var 0)]) (T := treeNew) pr_holds (by kernel_rfl) (by kernel_rfl) (by kernel_rfl) ?_
  rintro G l e0 ⟨n, rfl, he, hG⟩
  refine ⟨noLoops, (Env.ofL [.int .i64 n]).st (encG G), rfl, rfl, ?_⟩
  unfold newV at he
  unfold newG at hG
  refine sem_split (fun h => ?_) (fun h => ?_)
  · have h : n < 1 := of_decide_eq_true h
    rw [if_pos (.inl h)] at he hG
    exact sem_retG rfl (by show _ = oneOf (e0.v 0); rw [he]; rfl) trivial (by rw [hG]; rfl)
  · have h1 : ¬ n < 1 := of_decide_eq_false h
    refine sem_split (fun h => ?_) (fun h => ?_)
    · have h : n > 32 := of_decide_eq_true h
      rw [if_pos (.inr h)] at he hG
      exact sem_retG rfl (by show _ = oneOf (e0.v 0); rw [he]; rfl) trivial (by rw [hG]; rfl)
    · have h2 : ¬ n > 32 := of_decide_eq_false h
      rw [if_neg (by omega)] at he hG
      refine sem_step G [] ((Env.ofL [tok G.length]).ans (encG (G ++ [.map []]))) rfl rfl ⟨rfl, rfl, rfl⟩ ?_
      refine sem_step (G ++ [.map []]) [.agg (newNet n G.length).cells.toArray] ((Env.ofL [.int .i64 (G.length + 1 : Nat)]).ans (encG (G ++ [.map []] ++ [.ptr (newNet n G.length).cells]))) rfl rfl
        ⟨_, rfl, ?_, fun cs e => (by cases e), Nat.succ_pos 6, by simp [Env.ofL, Env.ans], rfl⟩ ?_
      · intro c hc
        simp [Value.cells, NetM.cells, newNet] at hc
        rcases hc with rfl | rfl | rfl | rfl <;> rfl
      · exact sem_retG rfl (by show _ = oneOf (e0.v 0); rw [he]; rfl) trivial (by rw [hG]; rfl)
theorem new_is (G : List Ob) {n : Int} (h : ¬ (n < 1 ∨ 32 < n)) : IsNet (newG G n) (G.length + 1) (newNet n G.length) := by
  unfold newG
  rw [if_neg h]
  refine ⟨?_, .inl ⟨rfl, rfl, rfl⟩, fun l hl => (by cases hl), ?_, fun p hp => (by cases hp), Nat.zero_le _⟩
  · rw [List.getElem?_append_right (by simp)]; simp
  · show (G ++ [.map []] ++ [Ob.ptr _])[G.length]? = _
    rw [List.append_assoc, List.getElem?_append_right (Nat.le_refl _)]; simp [newNet]
/-- How many wait. -/
def waitsR (G : List Ob) (l : List Value) (e : Env) : Prop := ∃ x N, l = [tokAt x 0] ∧ IsNet G x N ∧ e.i 0 = (N.row.length : Nat) ∧ e.g gv = encG G
def waitsC : Con := mkCon 12 [] (.int .i64 (.var 0)) 2
def net : E := .pla (.var 0) (.lit 0) 0
def treeWaits : Tree :=
 (.call 1 4200 [(.pla (.var 0) (.lit 0) 1), (.var 199)]
 (.call 5 5200 [(.hnd 4200), (.var 199)]
 (leafG (.int .i64 (.var 5200)) .nil 199)))
theorem waits_holds : waitsC.holds Try.prog (conR waitsR) := by
  refine con_of_runG (cs := pr) (S := prS) (LT := []) (depth := 0) (fuel := 10) (nv := 200) (av := [net]) (T := treeWaits) pr_holds (by kernel_rfl) (by kernel_rfl) (by kernel_rfl) ?_
  rintro G l e0 ⟨x, N, rfl, hN, he, hG⟩
  have h1 := hN.row.one
  refine ⟨noLoops, (Env.ofL [.int .i64 x]).st (encG G), rfl, rfl, ?_⟩
  refine sem_step G [tokAt x 1] (Env.ofL [N.rv]) rfl rfl ⟨x, 1, _, N.rv, rfl, cells_ptr hN.ob, rfl, hnd_nam rfl h1⟩ ?_
  refine sem_step G [N.rv] (Env.ofL [.int .i64 N.row.length]) rfl (by show [oneOf N.rv, _] = _; rw [oneOf_eq h1]; rfl) ⟨N.rv, 3, _, _, rfl, hN.sl, rfl⟩ ?_
  exact sem_retG rfl (by show _ = Value.int .i64 (e0.i 0); rw [he]; rfl) trivial (by rw [hG]; rfl)
/-- The counts. -/
def countsR (G : List Ob) (l : List Value) (e : Env) : Prop := ∃ x N, l = [tokAt x 0] ∧ IsNet G x N ∧ e.i 0 = N.sent ∧ e.i 1 = N.doubled ∧ e.i 2 = N.delivered ∧ e.i 3 = N.lost ∧ e.g gv = encG G
def countsC : Con := mkCon 14 [] (.tup (ints4 0)) 2
where ints4 (n : Nat) : List E := [.int .i64 (.var n), .int .i64 (.var (n + 1)), .int .i64 (.var (n + 2)), .int .i64 (.var (n + 3))]
def treeCounts : Tree :=
 (.call 0 7200 [(.pla (.var 0) (.lit 0) 3), (.var 199)]
 (.call 0 11200 [(.pla (.var 0) (.lit 0) 4), (.var 199)]
 (.call 0 15200 [(.pla (.var 0) (.lit 0) 5), (.var 199)]
 (.call 0 19200 [(.pla (.var 0) (.lit 0) 6), (.var 199)]
 (leafG (.tup ([(.int .i64 (.var 7200)), (.int .i64 (.var 11200)), (.int .i64 (.var 15200)), (.int .i64 (.var 19200))])) .nil 199)))))
theorem counts_holds : countsC.holds Try.prog (conR countsR) := by
  refine con_of_runG (cs := pr) (S := prS) (LT := []) (depth := 0) (fuel := 10) (nv := 200) (av := [net]) (T := treeCounts) pr_holds (by kernel_rfl) (by kernel_rfl) (by kernel_rfl) ?_
  rintro G l e0 ⟨x, N, rfl, hN, h0, h1, h2, h3, hG⟩
  refine ⟨noLoops, (Env.ofL [.int .i64 x]).st (encG G), rfl, rfl, ?_⟩
  refine sem_step G [tokAt x 3] (Env.ofL [.int .i64 N.sent]) rfl rfl ⟨x, 3, _, _, rfl, cells_ptr hN.ob, rfl, rfl⟩ ?_
  refine sem_step G [tokAt x 4] (Env.ofL [.int .i64 N.doubled]) rfl rfl ⟨x, 4, _, _, rfl, cells_ptr hN.ob, rfl, rfl⟩ ?_
  refine sem_step G [tokAt x 5] (Env.ofL [.int .i64 N.delivered]) rfl rfl ⟨x, 5, _, _, rfl, cells_ptr hN.ob, rfl, rfl⟩ ?_
  refine sem_step G [tokAt x 6] (Env.ofL [.int .i64 N.lost]) rfl rfl ⟨x, 6, _, _, rfl, cells_ptr hN.ob, rfl, rfl⟩ ?_
  exact sem_retG rfl (by show _ = Value.tuple #[.int .i64 (e0.i 0), .int .i64 (e0.i 1), .int .i64 (e0.i 2), .int .i64 (e0.i 3)]; rw [h0, h1, h2, h3]; rfl) trivial (by rw [hG]; rfl)
/-- The way of two nodes. -/
def wayB (n a b : Int) : Bool := decide (1 ≤ a ∧ a ≤ n) && decide (1 ≤ b ∧ b ≤ n) && !decide (a = b)
def betweenR (G : List Ob) (l : List Value) (e : Env) : Prop := ∃ x N a b, l = [tokAt x 0, .int .i64 a, .int .i64 b] ∧ IsNet G x N ∧ e.i 0 = intMin a b ∧ e.i 1 = intMax a b ∧ e.b 2 = wayB N.nodes a b ∧ e.g gv = encG G
def wayE (n : Nat) : List E := [.int .i64 (.var n), .int .i64 (.var (n + 1))]
def betweenC : Con := mkCon 37 [] (.tup [.agg (wayE 0), .bool (.var 2)]) 2
def treeBetween : Tree :=
 (.split (.cmp .geq (.var 1) (.lit 1))
 (.call 0 23200 [(.pla (.var 0) (.lit 0) 0), (.var 199)]
 (.split (.cmp .leq (.var 1) (.var 23200))
 (.split (.cmp .geq (.var 2) (.lit 1))
 (.call 0 49200 [(.pla (.var 0) (.lit 0) 0), (.var 199)]
 (.split (.cmp .leq (.var 2) (.var 49200))
 (leafG (.tup ([(.agg ([(.int .i64 (.mn (.var 1) (.var 2))), (.int .i64 (.mx (.var 1) (.var 2)))])), (.bool (.not (.cmp .eql (.var 1) (.var 2))))])) .nil 199)
 (leafG (.tup ([(.agg ([(.int .i64 (.mn (.var 1) (.var 2))), (.int .i64 (.mx (.var 1) (.var 2)))])), (.bool (.lit false))])) .nil 199)))
 (leafG (.tup ([(.agg ([(.int .i64 (.mn (.var 1) (.var 2))), (.int .i64 (.mx (.var 1) (.var 2)))])), (.bool (.lit false))])) .nil 199))
 (leafG (.tup ([(.agg ([(.int .i64 (.mn (.var 1) (.var 2))), (.int .i64 (.mx (.var 1) (.var 2)))])), (.bool (.lit false))])) .nil 199)))
 (leafG (.tup ([(.agg ([(.int .i64 (.mn (.var 1) (.var 2))), (.int .i64 (.mx (.var 1) (.var 2)))])), (.bool (.lit false))])) .nil 199))
theorem between_holds : betweenC.holds Try.prog (conR betweenR) := by
  refine con_of_runG (cs := pr) (S := prS) (LT := []) (depth := 1) (fuel := 10) (nv := 200) (av := [net, .int .i64 (.var 1), .int .i64 (.var 2)]) (T := treeBetween) pr_holds (by kernel_rfl) (by kernel_rfl) (by kernel_rfl) ?_
  rintro G l e0 ⟨x, N, a, b, rfl, hN, h0, h1, h2, hG⟩
  refine ⟨noLoops, (Env.ofL [.int .i64 x, .int .i64 a, .int .i64 b]).st (encG G), rfl, rfl, ?_⟩
  have fin : ∀ (ρ : Env) (c : C) (h : Tr (List E)), ρ.i 1 = a → ρ.i 2 = b → c.den ρ = wayB N.nodes a b → ρ.g 199 = encG G →
      treeSem prS noLoops (KF [] (.tup [.agg (wayE 0), .bool (.var 2)]) e0 2) ρ (leafG (.tup [.agg [.int .i64 (.mn (.var 1) (.var 2)), .int .i64 (.mx (.var 1) (.var 2))], .bool c]) h 199) := fun ρ c h e1 e2 e3 e4 => by
    refine sem_retG rfl ?_ trivial (by rw [hG, e4])
    show Value.tuple #[.agg #[.int .i64 (intMin (ρ.i 1) (ρ.i 2)), .int .i64 (intMax (ρ.i 1) (ρ.i 2))], .bool (c.den ρ)] = Value.tuple #[.agg #[.int .i64 (e0.i 0), .int .i64 (e0.i 1)], .bool (e0.b 2)]
    rw [e1, e2, e3, h0, h1, h2]
  refine sem_split (fun h => ?_) (fun h => ?_)
  · have g1 : a ≥ 1 := of_decide_eq_true h
    refine sem_step G [tokAt x 0] (Env.ofL [.int .i64 N.nodes]) rfl rfl ⟨x, 0, _, _, rfl, cells_ptr hN.ob, rfl, rfl⟩ ?_
    refine sem_split (fun h => ?_) (fun h => ?_)
    · have g2 : a ≤ N.nodes := of_decide_eq_true h
      refine sem_split (fun h => ?_) (fun h => ?_)
      · have g3 : b ≥ 1 := of_decide_eq_true h
        refine sem_step G [tokAt x 0] (Env.ofL [.int .i64 N.nodes]) rfl rfl ⟨x, 0, _, _, rfl, cells_ptr hN.ob, rfl, rfl⟩ ?_
        refine sem_split (fun h => ?_) (fun h => ?_)
        · have g4 : b ≤ N.nodes := of_decide_eq_true h
          refine fin _ _ _ rfl rfl ?_ rfl
          show (!(a == b)) = _
          unfold wayB
          rw [decide_eq_true (show 1 ≤ a ∧ a ≤ N.nodes by omega), decide_eq_true (show 1 ≤ b ∧ b ≤ N.nodes by omega)]
          by_cases e : a = b <;> simp [e]
        · have g4 : ¬ b ≤ N.nodes := of_decide_eq_false h
          refine fin _ _ _ rfl rfl ?_ rfl
          unfold wayB
          rw [decide_eq_false (show ¬ (1 ≤ b ∧ b ≤ N.nodes) by omega)]
          simp [C.den]
      · have g3 : ¬ b ≥ 1 := of_decide_eq_false h
        refine fin _ _ _ rfl rfl ?_ rfl
        unfold wayB
        rw [decide_eq_false (show ¬ (1 ≤ b ∧ b ≤ N.nodes) by omega)]
        simp [C.den]
    · have g2 : ¬ a ≤ N.nodes := of_decide_eq_false h
      refine fin _ _ _ rfl rfl ?_ rfl
      unfold wayB
      rw [decide_eq_false (show ¬ (1 ≤ a ∧ a ≤ N.nodes) by omega)]
      simp [C.den]
  · have g1 : ¬ a ≥ 1 := of_decide_eq_false h
    refine fin _ _ _ rfl rfl ?_ rfl
    unfold wayB
    rw [decide_eq_false (show ¬ (1 ≤ a ∧ a ≤ N.nodes) by omega)]
    simp [C.den]
end Go.Proofs.Yteklnfajpignoaa
