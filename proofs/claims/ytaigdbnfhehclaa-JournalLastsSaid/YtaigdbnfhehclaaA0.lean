/- What is proved: contracts of what the disk's code calls: slices.Clone, Pick, CopyBytes, SameBytes. No condition but those each law names. -/
import Derived.Test.YtaigdbnfhehclaaSzI
import Derived.Test.YtaigdbnfhehclaaProg
namespace Go.Proofs.Ytaigdbnfhehclaa
open Go.RowKit Sx
set_option maxRecDepth 100000

/-- A contract on the store out of a run. -/
theorem con_of_runG {P : Program} {cs : List Con} {S : List ConS} (hC : Cons P cs S) (hm : P.follows .mixedOrders = true) {LT : List (Nat × LS)} {depth fuel nv : Nat} {f : FuncId} {ptrs : List (Nat × Nat × Option (List E))} {res : E} {av : List E} {R : List Ob → List Value → Env → Prop} {T : Tree}
    (hchk : (chkCon ptrs res 2 && Sole ptrs && okG 2 ptrs av && decide (f < primBase)) = true) (hT : runF P cs LT depth fuel f 2 nv (barePtrs ptrs) av = T)
    (hdec : ∀ G l e0, R G l e0 → ∃ LQ ρ, l = E.nams ρ lay0 av ∧ ρ.g (nv - 1) = encG G ∧ treeSem S LQ (KF ptrs res e0 2) ρ T) : (mkCon f ptrs res 2).holds P (conR R) := by
  refine con_of_run hC hm hchk hT fun vs g e0 hs => ?_
  obtain ⟨G, l, hvs, hR⟩ := hs
  obtain ⟨rfl, rfl⟩ := store_last l hvs
  exact hdec G vs e0 hR
theorem wr_of {P : Program} {c : Con} {R : List Ob → List Value → Env → Prop} (k : Nat) (h : c.holds P (conR R)) (hx : ∀ G l e, R G l e → ∃ G', e.g gv = encG G' ∧ extG k G G') : ({ c with wr := k } : Con).holds P (conR R) :=
  holds_wr k h fun vs g e ⟨G, l, hvs, hR⟩ => by
    obtain ⟨rfl, rfl⟩ := store_last l hvs
    obtain ⟨G', h1, h2⟩ := hx G vs e hR
    rw [h1]
    exact ext_enc h2
/-- The operations that the disk's functions have. -/
def dp : List Con := [loadC 3 (.int .i64 (.var 0)), loadC 4 (.bool (.var 0)), loadC 54 (.hnd 0), loadC 55 (.hnd 0), loadC 74 (.var 0), storeC 3, storeC 4, storeC 74, mmC 54, mmC 55, boxC 57, allocC 74, aviC 74, copyB 32, lenC 32, upC 54, upC 55, lukC 55 (.tup [.var 0, .bool (.var 1)]), luC 55 (.var 0), lukC 54 (.tup [.hnd 0, .bool (.var 1)]), clrC 55, eqC 76, eqC 32, nilC, msC 32, bsC 32 0, bsC 32 1, appC 32, appzC 32 3, loadC 5 (.int .u8 (.var 0)), idxC 32, storeC 5]
def zerosV : Value := .agg (List.replicate 128 (Value.int .u8 0)).toArray
def IntK (v : Value) : Prop := ∃ n, v = .int .i64 n
def dpS : List ConS := [conR (loadR (.int .i64 (.var 0))), conR (loadR (.bool (.var 0))), conR (loadR (.hnd 0)), conR (loadR (.hnd 0)), conR (loadRowR 128 (.var 0)), conR (storeR 1), conR (storeR 1), conR (storeR 128), conR mmR, conR mmR, conR boxR, conR (allocR (List.replicate 128 (Value.int .u8 0))), conR (aviR 128), conR copyBR, conR lenR,
  conR (upR IntK), conR (upR IntK), conR (lukR IntK zerosV (.tup [.var 0, .bool (.var 1)])), conR (luR IntK zerosV (.var 0)), conR (lukR IntK (.pointer none) (.tup [.hnd 0, .bool (.var 1)])), conR clrR, conR (CmpR NilPtr false), conR (CmpR NilSl false), conR nilR, conR (msR (.int .u8 0) 1), conR (bsR 1 0), conR (bsR 1 1), conR (appR 1 1), conR (appzR (.int .u8 0) 1),
  conR (loadR (.int .u8 (.var 0))), conR (idxR 1), conR (storeR 1)]
theorem key3 : KeyT Try.prog 3 IntK := keyInt Try.underlying3
theorem dp_holds : Cons Try.prog dp dpS := by
  have hz : ∀ h, concE h zerosV = zerosV := fun h => by
    unfold zerosV
    rw [concE_agg, List.map_toArray, List.map_replicate]
    rfl
  obtain ⟨i5, h51, h52, h53, h54⟩ := tyOf_spec (P := Try.prog) (t := 5) (s := 1) (b := 1) (z := .int .u8 0) (by kernel_rfl)
  obtain ⟨i62, g1, g2, g3, g4⟩ := tyOf_spec (P := Try.prog) (t := 74) (s := 128) (b := 128) (z := zerosV) (by kernel_rfl)
  obtain ⟨i70, f1, f2, f3, f4⟩ := tyOf_spec (P := Try.prog) (t := 76) (s := 1) (b := 8) (z := .pointer none) (by kernel_rfl)
  have hap := appz_holds (P := Try.prog) (t := 32) (t2 := 3) (zc := .int .u8 0) Try.underlying32 Try.underlying3 (by decide) h51 h52 h54 rfl rfl (fun _ => rfl)
  rw [h53] at hap
  exact ⟨load_holds (by kernel_rfl) rfl, load_holds (by kernel_rfl) rfl, load_holds (by kernel_rfl) rfl, load_holds (by kernel_rfl) rfl, loadRow_holds (by kernel_rfl) (by kernel_rfl) rfl,
    store_holds (by kernel_rfl), store_holds (by kernel_rfl), store_holds (by kernel_rfl), mm_holds, mm_holds, box_holds, alloc_ok (s := 128) (b := 128) (v := zerosV) (by kernel_rfl) (by kernel_rfl) (by kernel_rfl), avi_holds Try.underlying74 (by kernel_rfl),
    copyB_holds Try.underlying32 (by kernel_rfl), len_holds Try.underlying32, up_holds Try.underlying54 key3, up_holds Try.underlying55 key3, luk_holds Try.underlying55 key3 g1 g4 hz rfl, lu_holds Try.underlying55 key3 g1 g4 hz rfl, luk_holds Try.underlying54 key3 f1 f4 (fun _ => rfl) rfl,
    clr_holds Try.underlying55, (ptr_holds Try.underlying76).1, (slice_holds Try.underlying32).1, nil_holds, ms_ok (b := 1) (z := .int .u8 0) Try.underlying32 (by kernel_rfl) rfl, bs_ok (b := 1) (z := .int .u8 0) Try.underlying32 (by kernel_rfl) rfl, bs_ok (b := 1) (z := .int .u8 0) Try.underlying32 (by kernel_rfl) rfl,
    app_ok (z := .int .u8 0) Try.underlying32 (by kernel_rfl) rfl, hap, load_holds (by kernel_rfl) rfl, idx_holds Try.underlying32 (by kernel_rfl), store_holds (by kernel_rfl), trivial⟩
/-- Bytes that stay. -/
def Body (G : List Ob) (v : Value) (bs : List Int) : Prop := (v = .slice none 0 0 ∧ bs = []) ∨ ∃ k, v = tok k ∧ G[k]? = some (.ro 1 bs.length (bs.map (Value.int .u8)))
theorem Body.sl {G : List Ob} {v : Value} {bs : List Int} (h : Body G v bs) : Sl G v 1 bs.length (bs.map (Value.int .u8)) := by
  rcases h with ⟨rfl, rfl⟩ | ⟨k, rfl, h⟩
  · exact .inl ⟨rfl, rfl, rfl⟩
  · refine .inr ⟨k, 0, _, ⟨k, rfl, .inl ⟨_, .inr h, rfl, rfl⟩⟩, by unfold cellsAt; rw [h]; rfl, by simp, by simp [List.take_of_length_le]⟩
theorem Body.one {G : List Ob} {v : Value} {bs : List Int} (h : Body G v bs) : v.oneCell' = true := h.sl.one
/-- A copy of bytes: the store, and the copy. -/
def cloneG (fz : Bool) (G : List Ob) (v : Value) (n : Nat) (cells : List Value) : List Ob := if isNil v then G else if n = 0 then G ++ [mkRow fz 1 0 []] else G ++ [.dead] ++ [mkRow fz 1 n cells]
def cloneV (G : List Ob) (v : Value) (n : Nat) : Value := if isNil v then .slice none 0 0 else if n = 0 then tok G.length else tok (G.length + 1)
def cloneR (G : List Ob) (l : List Value) (e : Env) : Prop := ∃ (fz : Bool) (v : Value) (n : Nat) (cells : List Value), l = [v] ∧ Sl G v 1 n cells ∧ n ≤ 1000000 ∧ e.v 0 = cloneV G v n ∧ e.g gv = encG (cloneG fz G v n cells)
theorem cloneG_ext (fz : Bool) (G : List Ob) (v : Value) (n : Nat) (cells : List Value) : ∃ X, cloneG fz G v n cells = G ++ X := by
  unfold cloneG
  split
  · exact ⟨[], by simp⟩
  · split
    · exact ⟨_, rfl⟩
    · exact ⟨_, List.append_assoc _ _ _⟩
theorem cloneV_one (G : List Ob) (v : Value) (n : Nat) : (cloneV G v n).oneCell' = true := by unfold cloneV; split <;> (try split) <;> rfl
/-- What the copy is. -/
theorem clone_ro {G : List Ob} {v : Value} {bs : List Int} (h : Sl G v 1 bs.length (bs.map (Value.int .u8))) : Body (cloneG true G v bs.length (bs.map (Value.int .u8))) (cloneV G v bs.length) bs := by
  unfold cloneG cloneV
  rcases h with ⟨rfl, h1, h2⟩ | ⟨m, k, all, ⟨n, rfl, _⟩, _⟩
  · exact .inl ⟨rfl, by simpa using h1⟩
  · have hn : isNil (tok n) = false := rfl
    simp only [hn, Bool.false_eq_true, if_false]
    right
    by_cases h0 : bs.length = 0
    · have : bs = [] := List.length_eq_zero_iff.1 h0
      subst this
      exact ⟨_, by simp; rfl, by simp [mkRow]⟩
    · simp only [if_neg h0]
      exact ⟨_, rfl, by rw [List.getElem?_append_right (by simp)]; simp [mkRow]⟩
theorem clone_row {G : List Ob} {v : Value} {n : Nat} {cells : List Value} (h : Sl G v 1 n cells) : Dst (cloneG false G v n cells) (cloneV G v n) 1 n cells := by
  have hl := h.length
  unfold cloneG cloneV
  rcases h with ⟨rfl, h1, h2⟩ | ⟨m, k, all, ⟨j, rfl, _⟩, _⟩
  · exact .inl ⟨rfl, h1, h2⟩
  · have hn : isNil (tok j) = false := rfl
    simp only [hn, Bool.false_eq_true, if_false]
    right
    by_cases h0 : n = 0
    · subst h0
      have : cells = [] := List.length_eq_zero_iff.1 (by simpa using hl)
      subst this
      exact ⟨_, by simp; rfl, by simp [mkRow]⟩
    · simp only [if_neg h0]
      exact ⟨_, rfl, by rw [List.getElem?_append_right (by simp)]; simp [mkRow]⟩
def cloneC : Con := { mkCon 35 [] (.hnd 0) 2 with wr := 1 }
def treeClone : Tree :=
 (.call 22 2200 [(.hnd 0), (.lit (.slice none 0 0)), (.var 199)]
 (.split (.var 2200)
 (leafG (.lit (.slice none 0 0)) .nil 199)
 (.call 25 3200 [(.var 199)]
 (.call 27 5200 [(.hnd 3200), (.hnd 0), (.var 4199)]
 (leafG (.hnd 5200) .nil 6199)))))
theorem nil_or {G : List Ob} {v : Value} {s n : Nat} {cells : List Value} (h : Sl G v s n cells) : (v = .slice none 0 0 ∧ isNil v = true) ∨ ((∃ k, v = tok k) ∧ isNil v = false) := by
  rcases h with ⟨rfl, _, _⟩ | ⟨m, k, all, ⟨n, rfl, _⟩, _⟩
  · exact .inl ⟨rfl, rfl⟩
  · exact .inr ⟨⟨n, rfl⟩, rfl⟩
theorem clone_holds : cloneC.holds Try.prog (conR cloneR) := by
  refine wr_of 1 (con_of_runG (cs := dp) (S := dpS) (LT := []) (depth := 0) (fuel := 10) (nv := 200) (av := [.hnd 0]) (T := treeClone) dp_holds (by kernel_rfl) (by kernel_rfl) (by kernel_rfl) ?_) ?_
  · rintro G l e0 ⟨fz, v, n, cells, rfl, hsl, hn, he, hG⟩
    have h1 := hsl.one
    refine ⟨noLoops, (Env.ofL [v]).st (encG G), ?_, rfl, ?_⟩
    · show [v] = [oneOf v]
      rw [oneOf_eq h1]
    refine sem_step G [v, .slice none 0 0] (Env.ofL [.bool (isNil v)]) rfl (by show [oneOf v, _, _] = _; rw [oneOf_eq h1]; rfl) ⟨v, .slice none 0 0, isNil v, rfl, ⟨rfl, rfl, _, _, _, hsl⟩, by show isNil v = _; simp⟩ ?_
    refine sem_split (fun h => ?_) (fun h => ?_)
    · have hv : isNil v = true := h
      refine sem_retG rfl (by show _ = oneOf (e0.v 0); rw [he, cloneV, if_pos hv]; rfl) trivial (by rw [hG, cloneG, if_pos hv]; rfl)
    · have hv : isNil v = false := h
      have hvn : ¬ isNil v = true := by rw [hv]; simp
      have hl := hsl.length
      by_cases h0 : n = 0
      · subst h0
        have : cells = [] := List.length_eq_zero_iff.1 (by simpa using hl)
        subst this
        refine sem_step G [] ((Env.ofL [tok G.length]).ans (encG (G ++ [mkRow fz 1 0 []]))) rfl rfl ⟨fz, [], rfl, rfl, fun v hv => (by cases hv), rfl, rfl⟩ ?_
        refine sem_step (G ++ [mkRow fz 1 0 []]) [tok G.length, v] ((Env.ofL [tok G.length]).ans (encG (G ++ [mkRow fz 1 0 []]))) rfl (by show [_, oneOf v, _] = _; rw [oneOf_eq h1]; rfl)
          ⟨_, v, 0, 0, [], [], rfl, hsl.append, by omega, by omega, .inl ⟨rfl, ?_, rfl, rfl⟩⟩ ?_
        · refine .inr ⟨G.length, 0, [], ⟨G.length, rfl, .inl ⟨[], ?_, rfl, rfl⟩⟩, ?_, by simp, by simp⟩
          · cases fz <;> simp [mkRow]
          · unfold cellsAt; cases fz <;> simp [mkRow, Ob.cells?]
        · exact sem_retG rfl (by show _ = oneOf (e0.v 0); rw [he, cloneV, if_neg hvn, if_pos rfl]; rfl) trivial (by rw [hG, cloneG, if_neg hvn, if_pos rfl]; rfl)
      · refine sem_step G [] ((Env.ofL [tok G.length]).ans (encG (G ++ [mkRow false 1 0 []]))) rfl rfl ⟨false, [], rfl, rfl, fun v hv => (by cases hv), rfl, rfl⟩ ?_
        have hk : killV (G ++ [mkRow false 1 0 []]) (tok G.length) = G ++ [.dead] := by
          rw [killV_tok, List.set_append_right _ _ (Nat.le_refl _)]
          simp
        refine sem_step (G ++ [mkRow false 1 0 []]) [tok G.length, v] ((Env.ofL [tok (G.length + 1)]).ans (encG (G ++ [.dead] ++ [mkRow fz 1 n cells]))) rfl (by show [_, oneOf v, _] = _; rw [oneOf_eq h1]; rfl)
          ⟨_, v, 0, n, [], cells, rfl, hsl.append, by omega, by omega, .inr ⟨by omega, .inr ⟨_, rfl, by simp [mkRow]⟩, ?_, fz, ?_⟩⟩ ?_
        · show tok (G.length + 1) = tok _
          simp
        · rw [hk, Nat.zero_add, List.nil_append]
          rfl
        · exact sem_retG rfl (by show _ = oneOf (e0.v 0); rw [he, cloneV, if_neg hvn, if_neg h0]; rfl) trivial (by rw [hG, cloneG, if_neg hvn, if_neg h0]; rfl)
  · rintro G l e ⟨fz, v, n, cells, rfl, _, _, _, hG⟩
    obtain ⟨X, hX⟩ := cloneG_ext fz G v n cells
    exact ⟨_, hG, X, hX⟩
theorem hnd_nam {e : Env} {c : Value} (h : e.v 0 = c) (h1 : c.oneCell' = true) : (E.hnd 0).nam e lay0 = c := by
  show oneOf (e.v 0) = c
  rw [h, oneOf_eq h1]
theorem cells_ptr {G : List Ob} {n : Nat} {cells : List Value} (h : G[n]? = some (.ptr cells)) : cellsAt G n = some cells := by unfold cellsAt; rw [h]; rfl
theorem cells_row {G : List Ob} {n s len : Nat} {cells : List Value} (h : G[n]? = some (.row s len cells)) : cellsAt G n = some cells := by unfold cellsAt; rw [h]; rfl
theorem dst_sl {G : List Ob} {v : Value} {s len : Nat} {xs : List Value} (h : Dst G v s len xs) (hl : xs.length = len * s) : Sl G v s len xs := by
  rcases h with h | ⟨d, rfl, h⟩
  · exact .inl h
  · refine .inr ⟨d, 0, xs, ⟨d, rfl, .inl ⟨xs, .inl h, rfl, rfl⟩⟩, cells_row h, by omega, ?_⟩
    rw [List.drop_zero, List.take_of_length_le (by omega)]
theorem Dst.append {G X : List Ob} {v : Value} {s len : Nat} {xs : List Value} (h : Dst G v s len xs) : Dst (G ++ X) v s len xs := by
  rcases h with h | ⟨d, rfl, h⟩
  · exact .inl h
  · exact .inr ⟨d, rfl, by rw [List.getElem?_append_left (List.getElem?_eq_some_iff.1 h).1]; exact h⟩
theorem overV_set (cells : List Value) (k : Nat) (v : Value) (hk : k < cells.length) : overV cells k [v] = cells.set k v := by
  apply List.ext_getElem?
  intro j
  rw [overV_get _ _ _ (by simp; omega), List.getElem?_set]
  by_cases e : k = j
  · subst e; simp [hk]
  · rw [if_neg (by simp; omega), if_neg e]
/-- A literal of one byte. -/
def litG (G : List Ob) (c : Int) : List Ob := G ++ [.row 1 1 [.int .u8 c]]
theorem lit_get (G : List Ob) (c : Int) : (litG G c)[G.length]? = some (.row 1 1 [.int .u8 c]) := by unfold litG; rw [List.getElem?_append_right (Nat.le_refl _), Nat.sub_self]; rfl
theorem lit_sl (G : List Ob) (c : Int) : Sl (litG G c) (tok G.length) 1 [c].length ([c].map (Value.int .u8)) := dst_sl (.inr ⟨_, rfl, lit_get G c⟩) rfl
theorem lit_bs (G : List Ob) (c : Int) : bsR 1 1 G [.int .u8 c] ((Env.ofL [tok G.length]).ans (encG (litG G c))) :=
  ⟨false, [.int .u8 c], rfl, rfl, fun v hv => by
    have : v = .int .u8 c := by simpa using hv
    subst this
    exact ⟨rfl, fun d hd => (by
      have : d = .int .u8 c := by simpa [Value.cells] using hd
      subst this; rfl), fun cs e => (by cases e)⟩, rfl, rfl⟩
theorem cellsAt_keep {G G' : List Ob} (h : ∀ (n : Nat) o, G[n]? = some o → G'[n]? = some o) {m : Nat} {all : List Value} (ha : cellsAt G m = some all) : cellsAt G' m = some all := by
  unfold cellsAt at ha ⊢
  cases hm : G[m]? with
  | none => rw [hm] at ha; cases ha
  | some o => rw [hm] at ha; rw [h m o hm]; exact ha
theorem sl_keep {G G' : List Ob} (h : ∀ (n : Nat) o, G[n]? = some o → G'[n]? = some o) {v : Value} {s len : Nat} {cells : List Value} (hs : Sl G v s len cells) : Sl G' v s len cells := by
  rcases hs with hs | ⟨m, k, all, ⟨n, rfl, hin⟩, hall, hle, hc⟩
  · exact .inl hs
  · refine .inr ⟨m, k, all, ⟨n, rfl, ?_⟩, cellsAt_keep h hall, hle, hc⟩
    rcases hin with ⟨cs, hcs, e⟩ | ⟨hv, hm⟩
    · exact .inl ⟨cs, hcs.imp (h n _) (h n _), e⟩
    · exact .inr ⟨h n _ hv, hm⟩
/-- The place of an element, and what lies there. -/
theorem sl_at {G : List Ob} {v : Value} {s len : Nat} {cells : List Value} (h : Sl G v s len cells) (hs : 0 < s) {i : Int} (h0 : 0 ≤ i) (hi : i < (len : Nat)) :
    ∃ (m p : Nat) (all : List Value), idxR s G [v, .int .i64 i] (Env.ofL [.int .i64 m, .int .i64 p]) ∧ cellsAt G m = some all ∧ p + s ≤ all.length ∧ ∀ j, j < s → all[p + j]? = cells[i.toNat * s + j]? := by
  rcases h with ⟨_, rfl, _⟩ | ⟨m, k, all, hin, hall, hle, rfl⟩
  · omega
  · have hlt : i.toNat + 1 ≤ len := by omega
    have hm : (i.toNat + 1) * s ≤ len * s := Nat.mul_le_mul_right _ hlt
    rw [Nat.add_mul, Nat.one_mul] at hm
    refine ⟨m, k + i.toNat * s, all, ⟨v, .i64, i, m, k, len, all, rfl, hin, hall, hle, h0, hi, hs, rfl, rfl⟩, hall, by omega, fun j hj => ?_⟩
    rw [List.getElem?_take_of_lt (by omega), List.getElem?_drop, Nat.add_assoc]
/-- Pick. -/
def pickI (a b : Int) : Int := if b < 1 then 0 else if a.tmod b < 0 then IntKind.i64.wrap (a.tmod b + b) else a.tmod b
def pickC : Con := mkCon 10 [] (.int .i64 (.var 0))
def pickS : ConS := fun vs e => ∃ a b, vs = [.int .i64 a, .int .i64 b] ∧ e.i 0 = pickI a b
def treePick : Tree :=
 (.split (.cmp .lss (.var 1) (.lit 1))
 (leafT (.int .i64 (.lit 0)) .nil)
 (.need (.not (.cmp .eql (.var 1) (.lit 0))) (.split (.cmp .lss (.bin .rem .i64 (.var 0) (.var 1)) (.lit 0))
 (leafT (.int .i64 (.bin .add .i64 (.bin .rem .i64 (.var 0) (.var 1)) (.var 1))) .nil)
 (leafT (.int .i64 (.bin .rem .i64 (.var 0) (.var 1))) .nil))))
theorem pick_holds : pickC.holds Try.prog pickS := by
  refine con_of_run (cs := []) (S := []) (LT := []) (depth := 0) (fuel := 10) (nv := 200) (gh := 0) (av := [.int .i64 (.var 0), .int .i64 (.var 1)]) (T := treePick) trivial (by kernel_rfl) (by kernel_rfl) (by kernel_rfl) ?_
  rintro vs g e0 ⟨a, b, hvs, he⟩
  have hvs : vs = [.int .i64 a, .int .i64 b] := hvs
  subst hvs
  refine ⟨noLoops, (Env.ofL [.int .i64 a, .int .i64 b]).st (encG []), rfl, rfl, ?_⟩
  unfold pickI at he
  refine sem_split (fun h => ?_) (fun h => ?_)
  · have h : b < 1 := of_decide_eq_true h
    rw [if_pos h] at he
    exact sem_ret rfl (by show _ = Value.int .i64 (e0.i 0); rw [he]; rfl) trivial
  · have h : ¬ b < 1 := of_decide_eq_false h
    rw [if_neg h] at he
    refine sem_need (by show (!(b == 0)) = true; rw [show (b == 0) = false from beq_eq_false_iff_ne.2 (by omega)]; rfl) ?_
    refine sem_split (fun h => ?_) (fun h => ?_)
    · have h : a.tmod b < 0 := of_decide_eq_true h
      rw [if_pos h] at he
      exact sem_ret rfl (by show _ = Value.int .i64 (e0.i 0); rw [he]; rfl) trivial
    · have h : ¬ a.tmod b < 0 := of_decide_eq_false h
      rw [if_neg h] at he
      exact sem_ret rfl (by show _ = Value.int .i64 (e0.i 0); rw [he]; rfl) trivial
theorem wrap_up' {i : Int} (h0 : 0 ≤ i) (h1 : i ≤ 1000000) : IntKind.i64.wrap (i + 1) = i + 1 := by rw [IntWalk.i64_left, IntWalk.wrap64_in _ (by omega)]
/-- CopyBytes. -/
def cpS : List Ob → Value → List Int → List Int → List Ob × Value
  | G, v, _, [] => (G, v)
  | G, v, xs, c :: r => cpS (killV (litG G c) v ++ [.row 1 (xs.length + 1) ((xs ++ [c]).map (Value.int .u8))]) (tok (litG G c).length) (xs ++ [c]) r
def cpG (G : List Ob) (bs : List Int) : List Ob := (cpS G (.slice none 0 0) [] bs).1
def cpV (G : List Ob) (bs : List Int) : Value := (cpS G (.slice none 0 0) [] bs).2
/-- What holds in the midst of it. -/
structure CpAt (G Gj : List Ob) (v : Value) (xs : List Int) : Prop where
  dst : Dst Gj v 1 xs.length (xs.map (Value.int .u8))
  keep : ∀ (n : Nat) o, G[n]? = some o → Gj[n]? = some o
  new : ∀ d, v = tok d → G.length ≤ d
  len : G.length ≤ Gj.length
theorem CpAt.start (G : List Ob) : CpAt G G (.slice none 0 0) [] := ⟨.inl ⟨rfl, rfl, rfl⟩, fun _ _ h => h, fun d h => (by cases h), Nat.le_refl _⟩
theorem CpAt.next {G Gj : List Ob} {v : Value} {xs : List Int} (h : CpAt G Gj v xs) (c : Int) : CpAt G (killV (litG Gj c) v ++ [.row 1 (xs.length + 1) ((xs ++ [c]).map (Value.int .u8))]) (tok (litG Gj c).length) (xs ++ [c]) := by
  have hlen : (litG Gj c).length = Gj.length + 1 := by simp [litG]
  have hl := h.len
  refine ⟨.inr ⟨_, rfl, ?_⟩, fun n o ho => ?_, fun d hd => ?_, ?_⟩
  · rw [List.getElem?_append_right (by rw [killV_length]; exact Nat.le_refl _), killV_length, Nat.sub_self, List.length_append]
    rfl
  · have hn := (List.getElem?_eq_some_iff.1 ho).1
    rw [List.getElem?_append_left (by rw [killV_length]; omega)]
    have h2 : (litG Gj c)[n]? = some o := by unfold litG; rw [List.getElem?_append_left (by omega)]; exact h.keep n o ho
    rcases h.dst with ⟨rfl, _⟩ | ⟨d, rfl, _⟩
    · exact h2
    · have := h.new d rfl
      rw [killV_tok, List.getElem?_set_ne (by omega)]
      exact h2
  · have hd : (litG Gj c).length = d := by simpa [tok] using hd
    omega
  · rw [List.length_append, killV_length]
    omega
theorem cpS_at {G : List Ob} (r : List Int) : ∀ {Gj : List Ob} {v : Value} {xs : List Int}, CpAt G Gj v xs → CpAt G (cpS Gj v xs r).1 (cpS Gj v xs r).2 (xs ++ r) := by
  induction r with
  | nil => intro Gj v xs h; rw [List.append_nil]; exact h
  | cons c r ih =>
    intro Gj v xs h
    have := ih (h.next c)
    rw [List.append_assoc] at this
    exact this
theorem cp_at (G : List Ob) (bs : List Int) : CpAt G (cpG G bs) (cpV G bs) bs := cpS_at bs (CpAt.start G)
def copyR (G : List Ob) (l : List Value) (e : Env) : Prop := ∃ v bs, l = [v] ∧ Sl G v 1 bs.length (bs.map (Value.int .u8)) ∧ bs.length ≤ 1000000 ∧ e.v 0 = cpV G bs ∧ e.g gv = encG (cpG G bs)
def copyC : Con := mkCon 42 [] (.hnd 0) 2
def kp : List Con := [loadC 5 (.int .u8 (.var 0)), lenC 32, idxC 32, bsC 32 1, appC 32, storeC 5]
def kpS : List ConS := [conR (loadR (.int .u8 (.var 0))), conR lenR, conR (idxR 1), conR (bsR 1 1), conR (appR 1 1), conR (storeR 1)]
theorem kp_holds : Cons Try.prog kp kpS :=
  ⟨load_holds (by kernel_rfl) rfl, len_holds Try.underlying32, idx_holds Try.underlying32 (by kernel_rfl), bs_ok (b := 1) (z := .int .u8 0) Try.underlying32 (by kernel_rfl) rfl, app_ok (z := .int .u8 0) Try.underlying32 (by kernel_rfl) rfl, store_holds (by kernel_rfl), trivial⟩
def cpInv (G : List Ob) (bs : List Int) (nv : Nat) (ρ : Env) : Prop := ∃ Gj xs r, ρ.g (nv + 999) = encG Gj ∧ ρ.i (nv + 1) = (xs.length : Nat) ∧ bs = xs ++ r ∧ CpAt G Gj (ρ.v nv) xs ∧ cpS G (.slice none 0 0) [] bs = cpS Gj (ρ.v nv) xs r
def cpLQ (G : List Ob) (bs : List Int) : LoopS := ⟨fun _ nv ρ => cpInv G bs nv ρ, fun _ nv ρ => (bs.length - ρ.i (nv + 1)).toNat⟩
def treeCopy : Tree :=
 (.loop 3 3200 [(3200, (.lit (.slice none 0 0))), (3201, (.int .i64 (.lit 0))), (4199, (.var 199))]
 (.call 1 6200 [(.hnd 0), (.var 4199)]
 (.split (.cmp .lss (.var 3201) (.var 6200))
 (.call 2 11200 [(.hnd 0), (.int .i64 (.var 3201)), (.var 4199)]
 (.call 0 12200 [(.pla (.var 11200) (.var 11201) 0), (.var 4199)]
 (.call 3 13200 [(.int .u8 (.var 12200)), (.var 4199)]
 (.call 4 14200 [(.hnd 3200), (.hnd 13200), (.var 14199)]
 (.again 3 3200 [(3200, (.hnd 14200)), (3201, (.int .i64 (.bin .add .i64 (.var 3201) (.lit 1)))), (4199, (.var 15199))])))))
 (leafG (.hnd 3200) .nil 4199))))
theorem copy_holds : copyC.holds Try.prog (conR copyR) := by
  refine con_of_runG (cs := kp) (S := kpS) (LT := [(3, ⟨[(3, fun b => .hnd b), (4, fun b => .int .i64 (.var (b + 1)))], [], [], true⟩)]) (depth := 0) (fuel := 10) (nv := 200) (av := [.hnd 0]) (T := treeCopy) kp_holds (by kernel_rfl) (by kernel_rfl) (by kernel_rfl) ?_
  rintro G l e0 ⟨v, bs, rfl, hv, hbl, q0, hG⟩
  have hv1 := hv.one
  refine ⟨cpLQ G bs, (Env.ofL [v]).st (encG G), by show [v] = [oneOf v]; rw [oneOf_eq hv1], rfl, ?_⟩
  refine sem_loop (Env.from_ _ 3200 ((Env.ofL [.slice none 0 0, .int .i64 0]).ans (encG G))) (Env.from_ag _ _ _) rfl ⟨G, [], bs, rfl, rfl, rfl, CpAt.start G, rfl⟩ (by kernel_rfl) (fun ρ1 ρ2 h => ?_) (fun ρ hag hinv => ?_)
  · show ((bs.length : Int) - ρ2.i 3201).toNat = ((bs.length : Int) - ρ1.i 3201).toNat
    rw [(h 3201 (by decide)).1]
  obtain ⟨Gj, xs, r, hg, hi, hbs, hat, hcp⟩ := hinv
  have hg : ρ.g 4199 = encG Gj := hg
  have hi : ρ.i 3201 = (xs.length : Nat) := hi
  have hx : ρ.v 0 = v := (hag 0 (by decide)).2.2
  have hd1 := hat.dst.one
  have hsj := sl_keep hat.keep hv
  refine sem_step Gj [v] (Env.ofL [.int .i64 bs.length]) rfl (by show [oneOf (ρ.v 0), ρ.g 4199] = _; rw [hx, hg, oneOf_eq hv1]; rfl) ⟨v, 1, _, _, rfl, hsj, rfl⟩ ?_
  refine sem_split (fun h => ?_) (fun h => ?_)
  · have h : ρ.i 3201 < (bs.length : Int) := of_decide_eq_true h
    obtain ⟨c, r', rfl⟩ : ∃ c r', r = c :: r' := by
      cases r with
      | nil => rw [hbs, List.append_nil] at h; omega
      | cons c r' => exact ⟨c, r', rfl⟩
    obtain ⟨m, p, all, q1, q2, q3, q4⟩ := sl_at hsj Nat.one_pos (i := ρ.i 3201) (by omega) h
    have q5 := q4 0 Nat.one_pos
    rw [hi, Int.toNat_natCast, Nat.mul_one, Nat.add_zero, Nat.add_zero, List.getElem?_map, hbs, List.getElem?_append_right (Nat.le_refl _), Nat.sub_self] at q5
    refine sem_step Gj [v, .int .i64 (ρ.i 3201)] _ rfl (by show [oneOf (ρ.v 0), Value.int .i64 (ρ.i 3201), ρ.g 4199] = _; rw [hx, hg, oneOf_eq hv1]; rfl) q1 ?_
    refine sem_step Gj [tokAt m p] (Env.ofL [.int .u8 c]) rfl (by show [tokAt m (p + 0), ρ.g 4199] = _; rw [hg]; rfl) ⟨m, p, all, .int .u8 c, rfl, q2, q5, rfl⟩ ?_
    refine sem_step Gj [.int .u8 c] _ rfl (by show [Value.int .u8 c, ρ.g 4199] = _; rw [hg]; rfl) (lit_bs _ _) ?_
    refine sem_step (litG Gj c) [ρ.v 3200, tok Gj.length] ((Env.ofL [tok (litG Gj c).length]).ans (encG (killV (litG Gj c) (ρ.v 3200) ++ [.row 1 (xs.length + 1) ((xs ++ [c]).map (Value.int .u8))]))) rfl (by show [oneOf (ρ.v 3200), _, _] = _; rw [oneOf_eq hd1]; rfl)
      ⟨ρ.v 3200, tok Gj.length, xs.length, 1, xs.map (Value.int .u8), [.int .u8 c], rfl, lit_sl Gj c, ?_, ?_, .inr ⟨Nat.one_pos, Dst.append hat.dst, rfl, false, ?_⟩⟩ ?_
    · rw [hbs] at hbl; simp at hbl; omega
    · rw [hbs] at hbl; simp at hbl; omega
    · rw [List.map_append]; rfl
    have hw := wrap_up' (i := ρ.i 3201) (by omega) (by omega)
    refine sem_again (Env.from_ _ 3200 ((Env.ofL [tok (litG Gj c).length, .int .i64 (ρ.i 3201 + 1)]).ans (encG (killV (litG Gj c) (ρ.v 3200) ++ [.row 1 (xs.length + 1) ((xs ++ [c]).map (Value.int .u8))])))) (Env.from_ag _ _ _) ?_ ⟨_, xs ++ [c], r', rfl, ?_, by rw [hbs]; simp, hat.next c, hcp⟩ ?_
    · show [tok (litG Gj c).length, Value.int .i64 (ρ.i 3201 + 1), _] = [_, Value.int .i64 (IntKind.i64.wrap (ρ.i 3201 + 1)), _]
      rw [hw]
      rfl
    · show ρ.i 3201 + 1 = _
      rw [hi]; simp
    · show ((bs.length : Int) - (ρ.i 3201 + 1)).toNat < ((bs.length : Int) - ρ.i 3201).toNat
      omega
  · have h : ¬ ρ.i 3201 < (bs.length : Int) := of_decide_eq_false h
    obtain rfl : r = [] := by
      cases r with
      | nil => rfl
      | cons c r' => rw [hbs] at h; simp at h; omega
    refine sem_retG rfl ?_ trivial ?_
    · show oneOf (ρ.v 3200) = oneOf (e0.v 0)
      rw [q0]
      unfold cpV
      rw [hcp]
      rfl
    · rw [hG]
      unfold cpG
      rw [hcp]
      exact hg
def sameR (G : List Ob) (l : List Value) (e : Env) : Prop := ∃ (v1 v2 : Value) (a b : List Int), l = [v1, v2] ∧ Sl G v1 1 a.length (a.map (Value.int .u8)) ∧ Sl G v2 1 b.length (b.map (Value.int .u8)) ∧ a.length ≤ 1000000 ∧ e.b 0 = decide (a = b) ∧ e.g gv = encG G
def sameC : Con := { mkCon 41 [] (.bool (.var 0)) 2 with wr := 1 }
def saInv (a b : List Int) (nv : Nat) (ρ : Env) : Prop := ∃ k : Nat, ρ.i nv = k ∧ k ≤ a.length ∧ ∀ j, j < k → a[j]? = b[j]?
def saLQ (a b : List Int) : LoopS := ⟨fun _ nv ρ => saInv a b nv ρ, fun _ nv ρ => (a.length - ρ.i nv).toNat⟩
def treeSame : Tree :=
 (.call 1 2200 [(.hnd 0), (.var 199)]
 (.call 1 4200 [(.hnd 1), (.var 199)]
 (.split (.cmp .eql (.var 2200) (.var 4200))
 (.loop 4 7200 [(7200, (.int .i64 (.lit 0)))]
 (.call 1 10200 [(.hnd 0), (.var 199)]
 (.split (.cmp .lss (.var 7200) (.var 10200))
 (.call 2 14200 [(.hnd 0), (.int .i64 (.var 7200)), (.var 199)]
 (.call 0 15200 [(.pla (.var 14200) (.var 14201) 0), (.var 199)]
 (.call 2 18200 [(.hnd 1), (.int .i64 (.var 7200)), (.var 199)]
 (.call 0 19200 [(.pla (.var 18200) (.var 18201) 0), (.var 199)]
 (.split (.cmp .eql (.var 15200) (.var 19200))
 (.again 4 7200 [(7200, (.int .i64 (.bin .add .i64 (.var 7200) (.lit 1))))])
 (leafG (.bool (.lit false)) .nil 199))))))
 (leafG (.bool (.lit true)) .nil 199))))
 (leafG (.bool (.lit false)) .nil 199))))
theorem same_holds : sameC.holds Try.prog (conR sameR) := by
  refine wr_of 1 (c := mkCon 41 [] (.bool (.var 0)) 2) (con_of_runG (cs := kp) (S := kpS) (LT := [(4, ⟨[(5, fun b => .int .i64 (.var b))], [], [], false⟩)]) (depth := 0) (fuel := 10) (nv := 200) (av := [.hnd 0, .hnd 1]) (T := treeSame) kp_holds (by kernel_rfl) (by kernel_rfl) (by kernel_rfl) ?_)
    (fun G l e ⟨_, _, _, _, _, _, _, _, _, hG⟩ => ⟨G, hG, ⟨[], by simp⟩⟩)
  rintro G l e0 ⟨v1, v2, a, b, rfl, hv, hw, hbl, q0, hG⟩
  have o1 := hv.one
  have o2 := hw.one
  refine ⟨saLQ a b, (Env.ofL [v1, v2]).st (encG G), by show [v1, v2] = [oneOf v1, oneOf v2]; rw [oneOf_eq o1, oneOf_eq o2], rfl, ?_⟩
  have ret : ∀ (t : Bool) (ρ : Env) (h : Tr (List E)), decide (a = b) = t → ρ.g 199 = encG G → treeSem kpS (saLQ a b) (KF [] (.bool (.var 0)) e0 2) ρ (leafG (.bool (.lit t)) h 199) := fun t ρ h ht hg =>
    sem_retG rfl (by show Value.bool t = Value.bool (e0.b 0); rw [q0, ht]) trivial (by rw [hG, hg])
  refine sem_step G [v1] (Env.ofL [.int .i64 a.length]) rfl (by show [oneOf v1, _] = _; rw [oneOf_eq o1]; rfl) ⟨v1, 1, _, _, rfl, hv, rfl⟩ ?_
  refine sem_step G [v2] (Env.ofL [.int .i64 b.length]) rfl (by show [oneOf v2, _] = _; rw [oneOf_eq o2]; rfl) ⟨v2, 1, _, _, rfl, hw, rfl⟩ ?_
  refine sem_split (fun h => ?_) (fun h => ?_)
  · have hab : ((a.length : Nat) : Int) = (b.length : Nat) := by simpa [C.den, T.den, intCmp, Env.from_, Env.ofL] using h
    refine sem_loop (Env.from_ _ 7200 (Env.ofL [.int .i64 0])) (Env.from_ag _ _ _) rfl ⟨0, rfl, Nat.zero_le _, fun j hj => absurd hj (Nat.not_lt_zero j)⟩ (by kernel_rfl) (fun ρ1 ρ2 h => ?_) (fun ρ hag hinv => ?_)
    · show ((a.length : Int) - ρ2.i 7200).toNat = ((a.length : Int) - ρ1.i 7200).toNat
      rw [(h 7200 (by decide)).1]
    obtain ⟨k, hi, hk, hsame⟩ := hinv
    have hi : ρ.i 7200 = k := hi
    have hg : ρ.g 199 = encG G := Env.ag_g hag (show 199 < 7200 by decide)
    have x0 : ρ.v 0 = v1 := (hag 0 (by decide)).2.2
    have x1 : ρ.v 1 = v2 := (hag 1 (by decide)).2.2
    refine sem_step G [v1] (Env.ofL [.int .i64 a.length]) rfl (by show [oneOf (ρ.v 0), ρ.g 199] = _; rw [x0, hg, oneOf_eq o1]; rfl) ⟨v1, 1, _, _, rfl, hv, rfl⟩ ?_
    refine sem_split (fun h => ?_) (fun h => ?_)
    · have h : ρ.i 7200 < (a.length : Int) := of_decide_eq_true h
      obtain ⟨m, p, all, q1, q2, q3, q4⟩ := sl_at hv Nat.one_pos (i := ρ.i 7200) (by omega) h
      obtain ⟨m', p', all', r1, r2, r3, r4⟩ := sl_at hw Nat.one_pos (i := ρ.i 7200) (by omega) (by omega)
      have q5 := q4 0 Nat.one_pos
      have r5 := r4 0 Nat.one_pos
      have ka : k < a.length := by omega
      have kb : k < b.length := by omega
      rw [hi, Int.toNat_natCast, Nat.mul_one, Nat.add_zero, Nat.add_zero, List.getElem?_map, List.getElem?_eq_getElem ka] at q5
      rw [hi, Int.toNat_natCast, Nat.mul_one, Nat.add_zero, Nat.add_zero, List.getElem?_map, List.getElem?_eq_getElem kb] at r5
      refine sem_step G [v1, .int .i64 (ρ.i 7200)] _ rfl (by show [oneOf (ρ.v 0), Value.int .i64 (ρ.i 7200), ρ.g 199] = _; rw [x0, hg, oneOf_eq o1]; rfl) q1 ?_
      refine sem_step G [tokAt m p] (Env.ofL [.int .u8 a[k]]) rfl (by show [tokAt m (p + 0), ρ.g 199] = _; rw [hg]; rfl) ⟨m, p, all, _, rfl, q2, q5, rfl⟩ ?_
      refine sem_step G [v2, .int .i64 (ρ.i 7200)] _ rfl (by show [oneOf (ρ.v 1), Value.int .i64 (ρ.i 7200), ρ.g 199] = _; rw [x1, hg, oneOf_eq o2]; rfl) r1 ?_
      refine sem_step G [tokAt m' p'] (Env.ofL [.int .u8 b[k]]) rfl (by show [tokAt m' (p' + 0), ρ.g 199] = _; rw [hg]; rfl) ⟨m', p', all', _, rfl, r2, r5, rfl⟩ ?_
      refine sem_split (fun h => ?_) (fun h => ?_)
      · have h : (a[k] == b[k]) = true := h
        have h : a[k] = b[k] := by simpa using h
        have hw' := wrap_up' (i := ρ.i 7200) (by omega) (by omega)
        refine sem_again (Env.from_ _ 7200 (Env.ofL [.int .i64 (ρ.i 7200 + 1)])) (Env.from_ag _ _ _) ?_ ⟨k + 1, ?_, by omega, fun j hj => ?_⟩ ?_
        · show [Value.int .i64 (ρ.i 7200 + 1)] = [Value.int .i64 (IntKind.i64.wrap (ρ.i 7200 + 1))]
          rw [hw']
        · show ρ.i 7200 + 1 = _
          rw [hi]; rfl
        · by_cases hj' : j < k
          · exact hsame j hj'
          · have : j = k := by omega
            subst this
            rw [List.getElem?_eq_getElem ka, List.getElem?_eq_getElem kb, h]
        · show ((a.length : Int) - (ρ.i 7200 + 1)).toNat < ((a.length : Int) - ρ.i 7200).toNat
          omega
      · have h : (a[k] == b[k]) = false := h
        have h : a[k] ≠ b[k] := by simpa using h
        exact ret false _ _ (decide_eq_false fun e => h (by subst e; rfl)) hg
    · have h : ¬ ρ.i 7200 < (a.length : Int) := of_decide_eq_false h
      refine ret true _ _ (decide_eq_true (List.ext_getElem? fun j => ?_)) hg
      by_cases hj : j < k
      · exact hsame j hj
      · rw [List.getElem?_eq_none (by omega), List.getElem?_eq_none (by omega)]
  · have hab : ¬ ((a.length : Nat) : Int) = (b.length : Nat) := by simpa [C.den, T.den, intCmp, Env.from_, Env.ofL] using h
    exact ret false _ _ (decide_eq_false fun e => hab (by rw [e])) rfl
end Go.Proofs.Ytaigdbnfhehclaa
