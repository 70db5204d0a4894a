/- What is proved: the contracts of a net's Look and lay, and of one; the contracts of a net's lay, Send, Double and Cut. No condition but those each law names. -/
import Derived.Test.YteklnfajpignoaaB1
namespace Go.Proofs.Yteklnfajpignoaa
open Go.RowKit Sx
set_option maxRecDepth 100000

/-- Steps of a net. -/
structure Step (x : Nat) (N : NetM) (G : List Ob) (N' : NetM) (G' : List Ob) : Prop where
  is_ : IsNet G' x N'
  fr : Fram x N G G'
  rv : N'.rv = N.rv ∨ ∃ k, N'.rv = tok k ∧ G.length ≤ k
  m : N'.m = N.m
theorem Step.refl {x : Nat} {N : NetM} {G : List Ob} (h : IsNet G x N) : Step x N G N G := ⟨h, ⟨Nat.le_refl _, fun _ _ h _ _ _ => h⟩, .inl rfl, rfl⟩
theorem Step.trans {x : Nat} {N N' N'' : NetM} {G G' G'' : List Ob} (h : Step x N G N' G') (h' : Step x N' G' N'' G'') : Step x N G N'' G'' := by
  refine ⟨h'.is_, ⟨Nat.le_trans h.fr.1 h'.fr.1, fun n o ho h1 h2 h3 => ?_⟩, ?_, h'.m.trans h.m⟩
  · refine h'.fr.2 n o (h.fr.2 n o ho h1 h2 h3) h1 (by rw [h.m]; exact h2) fun e => ?_
    rcases h.rv with hr | ⟨k, hr, hk⟩
    · exact h3 (hr ▸ e)
    · rw [hr] at e
      have : k = n := by simpa [tok] using e
      have := (List.getElem?_eq_some_iff.1 ho).1
      omega
  · rcases h'.rv with hr | ⟨k, hr, hk⟩
    · rw [hr]; exact h.rv
    · exact .inr ⟨k, hr, Nat.le_trans h.fr.1 hk⟩
theorem Body.keep {G G' : List Ob} {v : Value} {bs : List Int} (h : Body G v bs) (hG : ∀ (n : Nat) s l c, G[n]? = some (.ro s l c) → G'[n]? = some (.ro s l c)) : Body G' v bs := by
  rcases h with h | ⟨k, rfl, h⟩
  · exact .inl h
  · exact .inr ⟨k, rfl, hG _ _ _ _ h⟩
theorem Dst.append {G X : List Ob} {v : Value} {s len : Nat} {xs : List Value} (h : Sx.Dst G v s len xs) : Sx.Dst (G ++ X) v s len xs := by
  rcases h with h | ⟨d, rfl, h⟩
  · exact .inl h
  · exact .inr ⟨d, rfl, by rw [List.getElem?_append_left (List.getElem?_eq_some_iff.1 h).1]; exact h⟩
theorem IsNet.append {G X : List Ob} {x : Nat} {N : NetM} (h : IsNet G x N) : IsNet (G ++ X) x N := by
  have ap : ∀ (n : Nat) o, G[n]? = some o → (G ++ X)[n]? = some o := fun n o h => by rw [List.getElem?_append_left (List.getElem?_eq_some_iff.1 h).1]; exact h
  exact ⟨ap _ _ h.ob, Dst.append h.row, fun l hl => ⟨(h.body l hl).1.keep fun n s l c h => ap _ _ h, (h.body l hl).2⟩, ap _ _ h.map, h.keys, h.len⟩
theorem Step.push {G X : List Ob} {x : Nat} {N : NetM} (h : IsNet G x N) : Step x N G N (G ++ X) :=
  ⟨h.append, ⟨by simp, fun n o ho _ _ _ => by rw [List.getElem?_append_left (List.getElem?_eq_some_iff.1 ho).1]; exact ho⟩, .inl rfl, rfl⟩
/-- The counts turn. -/
theorem Step.put {G : List Ob} {x : Nat} {N N' : NetM} (h : IsNet G x N) (h2 : N'.row = N.row) (h3 : N'.cuts = N.cuts) (h4 : N'.rv = N.rv) (h5 : N'.m = N.m) : Step x N G N' (G.set x (.ptr N'.cells)) := by
  have hxl := (List.getElem?_eq_some_iff.1 h.ob).1
  have ne : ∀ (n : Nat) o, G[n]? = some o → (∀ c, o ≠ .ptr c) → (G.set x (.ptr N'.cells))[n]? = some o := fun n o ho hno => by
    rw [List.getElem?_set_ne]
    · exact ho
    · rintro rfl; rw [h.ob] at ho; cases ho; exact hno _ rfl
  refine ⟨⟨List.getElem?_set_self hxl, ?_, fun l hl => ?_, ?_, by rw [h3]; exact h.keys, by rw [h2]; exact h.len⟩, ⟨by simp, fun n o ho hx _ _ => by rw [List.getElem?_set_ne (Ne.symm hx)]; exact ho⟩, .inl h4, h5⟩
  · rw [h2, h4]
    rcases h.row with hr | ⟨d, e, hr⟩
    · exact .inl hr
    · exact .inr ⟨d, e, ne _ _ hr fun c e => by cases e⟩
  · rw [h2] at hl
    exact ⟨(h.body l hl).1.keep fun n s l c h => ne _ _ h fun c e => (by cases e), (h.body l hl).2⟩
  · rw [h5, h3]; exact ne _ _ h.map fun c e => by cases e
/-- One more. -/
def inc (c : Int) : Int := IntKind.i64.wrap (c + 1)
def oneG (G : List Ob) (n k : Nat) (cells : List Value) (c : Int) (b : Bool) : List Ob := if b then G.set n (.ptr (cells.set k (.int .i64 (inc c)))) else G
def oneR (G : List Ob) (l : List Value) (e : Env) : Prop := ∃ b n k cells c, l = [.bool b, tokAt n k] ∧ G[n]? = some (.ptr cells) ∧ cells[k]? = some (.int .i64 c) ∧ e.b 0 = b ∧ e.g gv = encG (oneG G n k cells c b)
def oneC : Con := mkCon 38 [] (.bool (.var 0)) 2
def cnt : E := .pla (.var 1) (.var 2) 0
def treeOne : Tree :=
 (.split (.var 0)
 (.call 0 4200 [(.pla (.var 1) (.var 2) 0), (.var 199)]
 (.call 8 7200 [(.pla (.var 1) (.var 2) 0), (.int .i64 (.bin .add .i64 (.var 4200) (.lit 1))), (.var 199)]
 (leafG (.bool (.var 0)) .nil 8199)))
 (leafG (.bool (.var 0)) .nil 199))
theorem overV_set (cells : List Value) (k : Nat) (v : Value) (hk : k < cells.length) : overV cells k [v] = cells.set k v := by
  apply List.ext_getElem?
  intro j
  rw [overV_get _ _ _ (by simp; omega), List.getElem?_set]
  by_cases e : k = j
  · subst e; simp [hk]
  · rw [if_neg (by simp; omega), if_neg e]
theorem one_holds : oneC.holds Try.prog (conR oneR) := by
  refine con_of_runG (cs := pr) (S := prS) (LT := []) (depth := 1) (fuel := 10) (nv := 200) (av := [.bool (.var 0), cnt]) (T := treeOne) pr_holds (by kernel_rfl) (by kernel_rfl) (by kernel_rfl) ?_
  rintro G l e0 ⟨b, n, k, cells, c, rfl, hn, hk, he, hG⟩
  refine ⟨noLoops, (Env.ofL [.bool b, .int .i64 n, .int .i64 k]).st (encG G), rfl, rfl, ?_⟩
  have hkl := (List.getElem?_eq_some_iff.1 hk).1
  refine sem_split (fun h => ?_) (fun h => ?_)
  · have hb : b = true := h
    subst hb
    refine sem_step G [tokAt n k] (Env.ofL [.int .i64 c]) rfl rfl ⟨n, k, _, _, rfl, cells_ptr hn, hk, rfl⟩ ?_
    refine sem_step G [tokAt n k, .int .i64 (inc c)] ((Env.ofL []).ans (encG (oneG G n k cells c true))) rfl rfl ⟨n, k, _, .ptr cells, cells, rfl, hn, rfl, rfl, rfl, fun u hu => ?_, fun cs e => (by cases e), by omega, ?_⟩ ?_
    · have : u = .int .i64 (inc c) := by simpa [Value.cells] using hu
      subst this
      rfl
    · have e : (Value.int .i64 (inc c)).cells.toList = [.int .i64 (inc c)] := rfl
      rw [e, overV_set _ _ _ hkl]
      rfl
    · exact sem_retG rfl (by show _ = Value.bool (e0.b 0); rw [he]; rfl) trivial (by rw [hG]; rfl)
  · have hb : b = false := h
    subst hb
    exact sem_retG rfl (by show _ = Value.bool (e0.b 0); rw [he]; rfl) trivial (by rw [hG]; rfl)
/-- Look. -/
def lookB (N : NetM) (k : Int) : Bool := decide (0 ≤ k ∧ k < (N.row.length : Nat))
def lookO (N : NetM) (k : Int) : Lt := N.row.getD k.toNat ⟨0, 0, .slice none 0 0, []⟩
def lookG (G : List Ob) (N : NetM) (k : Int) : List Ob := if lookB N k then cloneG false G (lookO N k).v (lookO N k).bs.length ((lookO N k).bs.map (Value.int .u8)) else G
def lookL (G : List Ob) (N : NetM) (k : Int) : Lt := if lookB N k then ⟨(lookO N k).f, (lookO N k).t, cloneV G (lookO N k).v (lookO N k).bs.length, (lookO N k).bs⟩ else ⟨0, 0, .slice none 0 0, []⟩
def lookR (G : List Ob) (l : List Value) (e : Env) : Prop := ∃ x N k, l = [tokAt x 0, .int .i64 k] ∧ IsNet G x N ∧ e.i 0 = (lookL G N k).f ∧ e.i 1 = (lookL G N k).t ∧ e.v 2 = (lookL G N k).v ∧ e.b 3 = lookB N k ∧ e.g gv = encG (lookG G N k)
def lookC : Con := mkCon 15 [] (.tup [.agg (letE 0), .bool (.var 3)]) 2
def treeLook : Tree :=
 (.split (.cmp .lss (.var 1) (.lit 0))
 (leafG (.tup ([(.agg ([(.int .i64 (.lit 0)), (.int .i64 (.lit 0)), (.lit (.slice none 0 0))])), (.bool (.lit false))])) .nil 199)
 (.call 2 9200 [(.pla (.var 0) (.lit 0) 1), (.var 199)]
 (.call 6 10200 [(.hnd 9200), (.var 199)]
 (.split (.cmp .geq (.var 1) (.var 10200))
 (leafG (.tup ([(.agg ([(.int .i64 (.lit 0)), (.int .i64 (.lit 0)), (.lit (.slice none 0 0))])), (.bool (.lit false))])) .nil 199)
 (.call 2 16200 [(.pla (.var 0) (.lit 0) 1), (.var 199)]
 (.call 8 18200 [(.hnd 16200), (.int .i64 (.var 1)), (.var 199)]
 (.call 4 19200 [(.pla (.var 18200) (.var 18201) 0), (.var 199)]
 (.call 0 24200 [(.hnd 19202), (.var 199)]
 (leafG (.tup ([(.agg ([(.int .i64 (.var 19200)), (.int .i64 (.var 19201)), (.hnd 24200)])), (.bool (.lit true))])) .nil 25199)))))))))
theorem lookB_spec {N : NetM} {k : Int} (h : lookB N k = true) : N.row[k.toNat]? = some (lookO N k) ∧ k.toNat < N.row.length ∧ 0 ≤ k := by
  unfold lookB at h
  have h := of_decide_eq_true h
  have hl : k.toNat < N.row.length := by omega
  refine ⟨?_, hl, h.1⟩
  unfold lookO
  rw [List.getD_eq_getElem?_getD, List.getElem?_eq_getElem hl]
  rfl
theorem lookL_one (G : List Ob) (N : NetM) (k : Int) : (lookL G N k).v.oneCell' = true := by
  unfold lookL
  split
  · exact cloneV_one _ _ _
  · rfl
theorem look_holds : lookC.holds Try.prog (conR lookR) := by
  refine con_of_runG (cs := cloneC :: pr) (S := conR cloneR :: prS) (LT := []) (depth := 0) (fuel := 10) (nv := 200) (av := [net, .int .i64 (.var 1)]) (T := treeLook) ⟨clone_holds, pr_holds⟩ (by kernel_rfl) (by kernel_rfl) (by kernel_rfl) ?_
  rintro G l e0 ⟨x, N, k, rfl, hN, h0, h1, h2, h3, hG⟩
  have hr1 := hN.row.one
  have hl1 := lookL_one G N k
  refine ⟨noLoops, (Env.ofL [.int .i64 x, .int .i64 k]).st (encG G), rfl, rfl, ?_⟩
  have fin0 : lookB N k = false → ∀ (ρ : Env) (h : Tr (List E)), ρ.g 199 = encG G → treeSem (conR cloneR :: prS) noLoops (KF [] (.tup [.agg (letE 0), .bool (.var 3)]) e0 2) ρ (leafG (.tup [.agg [.int .i64 (.lit 0), .int .i64 (.lit 0), .lit (.slice none 0 0)], .bool (.lit false)]) h 199) := fun hb ρ h hg => by
    unfold lookL at h0 h1 h2
    unfold lookG at hG
    rw [if_neg (by rw [hb]; simp)] at h0 h1 h2 hG
    refine sem_retG rfl ?_ trivial (by rw [hG, hg])
    show _ = Value.tuple #[.agg #[.int .i64 (e0.i 0), .int .i64 (e0.i 1), oneOf (e0.v 2)], .bool (e0.b 3)]
    rw [h0, h1, h2, h3, hb]
    rfl
  refine sem_split (fun h => ?_) (fun h => ?_)
  · have hk : k < 0 := of_decide_eq_true h
    exact fin0 (decide_eq_false (by omega)) _ _ rfl
  · have hk : ¬ k < 0 := of_decide_eq_false h
    refine sem_step G [tokAt x 1] (Env.ofL [N.rv]) rfl rfl ⟨x, 1, _, N.rv, rfl, cells_ptr hN.ob, rfl, hnd_nam rfl hr1⟩ ?_
    refine sem_step G [N.rv] (Env.ofL [.int .i64 N.row.length]) rfl (by show [oneOf N.rv, _] = _; rw [oneOf_eq hr1]; rfl) ⟨N.rv, 3, _, _, rfl, hN.sl, rfl⟩ ?_
    refine sem_split (fun h => ?_) (fun h => ?_)
    · have hk2 : k ≥ (N.row.length : Int) := of_decide_eq_true h
      exact fin0 (decide_eq_false (by omega)) _ _ rfl
    · have hk2 : ¬ k ≥ (N.row.length : Int) := of_decide_eq_false h
      have hb : lookB N k = true := decide_eq_true (by omega)
      obtain ⟨hg, hkl, _⟩ := lookB_spec hb
      refine sem_step G [tokAt x 1] (Env.ofL [N.rv]) rfl rfl ⟨x, 1, _, N.rv, rfl, cells_ptr hN.ob, rfl, hnd_nam rfl hr1⟩ ?_
      -- the row is there
      rcases hN.row with ⟨_, hl0, _⟩ | ⟨d, hd, hdG⟩
      · omega
      refine sem_step G [tok d, .int .i64 k] (Env.ofL [.int .i64 d, .int .i64 ((0 + k.toNat * 3 : Nat) : Int)]) rfl (by show [oneOf N.rv, _, _] = _; rw [hd]; rfl)
        ⟨_, _, k, d, 0, N.row.length, _, rfl, ⟨d, rfl, .inl ⟨_, .inl hdG, rfl, rfl⟩⟩, cells_row hdG, by rw [rowC_length]; omega, by omega, by omega, by decide, rfl, rfl⟩ ?_
      have hfl := getElem_flat hg
      have hbody := hN.body _ (List.mem_of_getElem? hg)
      have hb1 := hbody.1.one
      refine sem_step G [tokAt d (k.toNat * 3)] (Env.ofL (lookO N k).cells) rfl ?_ ⟨d, k.toNat * 3, _, rfl, cells_row hdG, by rw [rowC_length]; omega, ?_⟩ ?_
      · show [tokAt d ((0 + k.toNat * 3) + 0), _] = _
        rw [Nat.zero_add, Nat.add_zero]
        rfl
      · show Value.agg #[.int .i64 (lookO N k).f, .int .i64 (lookO N k).t, oneOf (lookO N k).v] = _
        rw [oneOf_eq hb1, hfl]
        rfl
      · refine sem_step G [(lookO N k).v] ((Env.ofL [(lookL G N k).v]).ans (encG (lookG G N k))) rfl (by show [oneOf (lookO N k).v, _] = _; rw [oneOf_eq hb1]; rfl)
          ⟨false, (lookO N k).v, _, _, rfl, hbody.1.sl, by have := hbody.2; omega, ?_, ?_⟩ ?_
        · show (lookL G N k).v = _
          unfold lookL
          rw [if_pos hb]
        · show noTup (encG (lookG G N k)) = _
          unfold lookG
          rw [if_pos hb]
          rfl
        · refine sem_retG rfl ?_ trivial (by rw [hG]; rfl)
          show Value.tuple #[.agg #[.int .i64 (lookO N k).f, .int .i64 (lookO N k).t, oneOf (lookL G N k).v], .bool true] = Value.tuple #[.agg #[.int .i64 (e0.i 0), .int .i64 (e0.i 1), oneOf (e0.v 2)], .bool (e0.b 3)]
          rw [h0, h1, h2, h3, hb]
          unfold lookL
          simp only [hb, if_true]
end Go.Proofs.Yteklnfajpignoaa

namespace Go.Proofs.Yteklnfajpignoaa
open Go.RowKit Sx
set_option maxRecDepth 100000

theorem killV_other {G : List Ob} {v : Value} {n s len : Nat} {xs : List Value} (hd : Sx.Dst G v s len xs) (h : v ≠ tok n) : (killV G v)[n]? = G[n]? := by
  rcases hd with ⟨rfl, _⟩ | ⟨d, rfl, _⟩
  · rfl
  · rw [killV_tok, List.getElem?_set_ne]
    rintro rfl
    exact h rfl
theorem rowC_snoc (r : List Lt) (l : Lt) : rowC (r ++ [l]) = rowC r ++ l.cells := by
  unfold rowC
  rw [List.map_append, List.flatten_append]
  simp
/-- A letter is laid. -/
def layL (G : List Ob) (l : Lt) : Lt := ⟨l.f, l.t, cloneV G l.v l.bs.length, l.bs⟩
def layG1 (G : List Ob) (l : Lt) : List Ob := cloneG true G l.v l.bs.length (l.bs.map (Value.int .u8))
def layG2 (G : List Ob) (l : Lt) : List Ob := layG1 G l ++ [.row 3 1 (layL G l).cells]
def layG3 (G : List Ob) (N : NetM) (l : Lt) : List Ob := killV (layG2 G l) N.rv ++ [.row 3 (N.row.length + 1) (rowC N.row ++ (layL G l).cells)]
def layB (N : NetM) : Bool := decide (N.row.length < 1000)
def layN1 (G : List Ob) (N : NetM) (l : Lt) : NetM := { N with row := N.row ++ [layL G l], rv := tok (layG2 G l).length }
def layN (G : List Ob) (N : NetM) (l : Lt) : NetM := if layB N then layN1 G N l else N
def layG (G : List Ob) (x : Nat) (N : NetM) (l : Lt) : List Ob := if layB N then (layG3 G N l).set x (.ptr (layN1 G N l).cells) else G
structure LtOk (G : List Ob) (l : Lt) : Prop where
  sl : Sl G l.v 1 l.bs.length (l.bs.map (Value.int .u8))
  le : l.bs.length ≤ 400
theorem Step.lay {G : List Ob} {x : Nat} {N : NetM} {l : Lt} (h : IsNet G x N) (hl : LtOk G l) : Step x N G (layN G N l) (layG G x N l) := by
  unfold layN layG
  by_cases hb : layB N = true
  rotate_left
  · rw [if_neg hb, if_neg hb]; exact Step.refl h
  rw [if_pos hb, if_pos hb]
  have hfull : N.row.length < 1000 := of_decide_eq_true hb
  obtain ⟨X, hX⟩ := cloneG_ext true G l.v l.bs.length (l.bs.map (Value.int .u8))
  have h2 : ∃ Y, layG2 G l = G ++ Y := ⟨X ++ [.row 3 1 (layL G l).cells], by unfold layG2 layG1; rw [hX, List.append_assoc]⟩
  obtain ⟨Y, hY⟩ := h2
  have hn2 : IsNet (layG2 G l) x N := by rw [hY]; exact h.append
  have hle : G.length ≤ (layG2 G l).length := by rw [hY]; simp
  have hxl := (List.getElem?_eq_some_iff.1 h.ob).1
  have hk : (killV (layG2 G l) N.rv).length = (layG2 G l).length := killV_length _ _
  -- what stays
  have keep3 : ∀ (n : Nat) o, (layG2 G l)[n]? = some o → N.rv ≠ tok n → (layG3 G N l)[n]? = some o := fun n o ho hne => by
    unfold layG3
    rw [List.getElem?_append_left (by rw [hk]; exact (List.getElem?_eq_some_iff.1 ho).1), killV_other hn2.row hne]
    exact ho
  have keep4 : ∀ (n : Nat) o c, (layG2 G l)[n]? = some o → N.rv ≠ tok n → n ≠ x → ((layG3 G N l).set x (.ptr c))[n]? = some o := fun n o c ho hne hx => by
    rw [List.getElem?_set_ne (Ne.symm hx)]
    exact keep3 n o ho hne
  have nrow : ∀ (n : Nat) o, (layG2 G l)[n]? = some o → (∀ a b c, o ≠ .row a b c) → N.rv ≠ tok n := fun n o ho hno e => by
    rcases hn2.row with ⟨e', _⟩ | ⟨d, e', hr⟩
    · rw [e'] at e; cases e
    · rw [e'] at e
      have : d = n := by simpa [tok] using e
      subst this
      rw [hr] at ho
      cases ho
      exact hno _ _ _ rfl
  have nx : ∀ (n : Nat) o, (layG2 G l)[n]? = some o → (∀ c, o ≠ .ptr c) → n ≠ x := fun n o ho hno e => by
    subst e
    rw [hn2.ob] at ho
    cases ho
    exact hno _ rfl
  have ro4 : ∀ c, ∀ (n : Nat) s' l' c', (layG2 G l)[n]? = some (.ro s' l' c') → ((layG3 G N l).set x (.ptr c))[n]? = some (.ro s' l' c') := fun c n s' l' c' ho =>
    keep4 n _ c ho (nrow n _ ho fun _ _ _ e => by cases e) (nx n _ ho fun _ e => by cases e)
  have hx3 : x < (layG3 G N l).length := by unfold layG3; rw [List.length_append, hk]; simp; omega
  refine ⟨⟨List.getElem?_set_self hx3, ?_, fun l' hl' => ?_, ?_, h.keys, ?_⟩, ⟨?_, fun n o ho h1 h2 h3 => ?_⟩, .inr ⟨_, rfl, hle⟩, rfl⟩
  · refine .inr ⟨_, rfl, ?_⟩
    rw [List.getElem?_set_ne (by omega)]
    show (killV (layG2 G l) N.rv ++ [_])[(layG2 G l).length]? = _
    rw [List.getElem?_append_right (by omega), hk, Nat.sub_self]
    show some (Ob.row 3 (N.row.length + 1) (rowC N.row ++ (layL G l).cells)) = some (Ob.row 3 (N.row ++ [layL G l]).length (rowC (N.row ++ [layL G l])))
    rw [rowC_snoc, List.length_append]
    rfl
  · rcases List.mem_append.1 hl' with hl' | hl'
    · exact ⟨(hn2.body l' hl').1.keep (ro4 _), (hn2.body l' hl').2⟩
    · have : l' = layL G l := by simpa using hl'
      subst this
      have hb := clone_ro hl.sl
      have hb2 : Body (layG2 G l) (layL G l).v (layL G l).bs := hb.keep fun n s' l' c ho => by
        unfold layG2 layG1
        rw [List.getElem?_append_left (List.getElem?_eq_some_iff.1 ho).1]
        exact ho
      exact ⟨hb2.keep (ro4 _), hl.le⟩
  · exact keep4 _ _ _ hn2.map (nrow _ _ hn2.map fun _ _ _ e => by cases e) (nx _ _ hn2.map fun _ e => by cases e)
  · show (N.row ++ [_]).length ≤ 1000
    simp
    omega
  · rw [List.length_set]
    unfold layG3
    rw [List.length_append, hk]
    simp
    omega
  · refine keep4 n o _ ?_ h3 h1
    rw [hY, List.getElem?_append_left (List.getElem?_eq_some_iff.1 ho).1]
    exact ho
def layR (G : List Ob) (l : List Value) (e : Env) : Prop := ∃ x N lt, l = [tokAt x 0, .agg lt.cells.toArray] ∧ IsNet G x N ∧ LtOk G lt ∧ e.b 0 = layB N ∧ e.g gv = encG (layG G x N lt)
def layC : Con := mkCon 39 [] (.bool (.var 0)) 2
def treeLay : Tree :=
 (.call 2 5200 [(.pla (.var 0) (.lit 0) 1), (.var 199)]
 (.call 6 6200 [(.hnd 5200), (.var 199)]
 (.split (.cmp .geq (.var 6200) (.lit 1000))
 (leafG (.bool (.lit false)) .nil 199)
 (.call 0 10200 [(.hnd 3), (.var 199)]
 (.call 2 17200 [(.pla (.var 0) (.lit 0) 1), (.var 11199)]
 (.call 13 19200 [(.agg ([(.int .i64 (.var 1)), (.int .i64 (.var 2)), (.hnd 10200)])), (.var 11199)]
 (.call 12 20200 [(.hnd 17200), (.hnd 19200), (.var 20199)]
 (.call 10 23200 [(.pla (.var 0) (.lit 0) 1), (.hnd 20200), (.var 21199)]
 (leafG (.bool (.lit true)) .nil 24199)))))))))
theorem lay_holds : layC.holds Try.prog (conR layR) := by
  refine con_of_runG (cs := cloneC :: pr) (S := conR cloneR :: prS) (LT := []) (depth := 1) (fuel := 10) (nv := 200) (av := [net, .agg (letE 1)]) (T := treeLay) ⟨clone_holds, pr_holds⟩ (by kernel_rfl) (by kernel_rfl) (by kernel_rfl) ?_
  rintro G l e0 ⟨x, N, lt, rfl, hN, hlt, he, hG⟩
  have hr1 := hN.row.one
  have hv1 := hlt.sl.one
  refine ⟨noLoops, (Env.ofL ([.int .i64 x] ++ lt.cells)).st (encG G), ?_, rfl, ?_⟩
  · show _ = [_, Value.agg #[.int .i64 lt.f, .int .i64 lt.t, oneOf lt.v]]
    rw [oneOf_eq hv1]
    rfl
  refine sem_step G [tokAt x 1] (Env.ofL [N.rv]) rfl rfl ⟨x, 1, _, N.rv, rfl, cells_ptr hN.ob, rfl, hnd_nam rfl hr1⟩ ?_
  refine sem_step G [N.rv] (Env.ofL [.int .i64 N.row.length]) rfl (by show [oneOf N.rv, _] = _; rw [oneOf_eq hr1]; rfl) ⟨N.rv, 3, _, _, rfl, hN.sl, rfl⟩ ?_
  refine sem_split (fun h => ?_) (fun h => ?_)
  · have hk : ¬ layB N = true := by
      have : (N.row.length : Int) ≥ 1000 := of_decide_eq_true h
      unfold layB; rw [decide_eq_true_eq]; omega
    unfold layG at hG
    rw [if_neg hk] at hG
    refine sem_retG rfl ?_ trivial (by rw [hG]; rfl)
    show Value.bool false = Value.bool (e0.b 0)
    rw [he]
    simpa using hk
  · have hb : layB N = true := by
      have : ¬ (N.row.length : Int) ≥ 1000 := of_decide_eq_false h
      unfold layB; rw [decide_eq_true_eq]; omega
    have hfull : N.row.length < 1000 := of_decide_eq_true hb
    obtain ⟨X, hX⟩ := cloneG_ext true G lt.v lt.bs.length (lt.bs.map (Value.int .u8))
    have hn1 : IsNet (layG1 G lt) x N := by unfold layG1; rw [hX]; exact hN.append
    have hn2 : IsNet (layG2 G lt) x N := by unfold layG2; exact hn1.append
    have hc1 : (layL G lt).v.oneCell' = true := cloneV_one _ _ _
    refine sem_step G [lt.v] ((Env.ofL [(layL G lt).v]).ans (encG (layG1 G lt))) rfl (by show [oneOf lt.v, _] = _; rw [oneOf_eq hv1]; rfl) ⟨true, lt.v, _, _, rfl, hlt.sl, by have := hlt.le; omega, rfl, rfl⟩ ?_
    refine sem_step (layG1 G lt) [tokAt x 1] (Env.ofL [N.rv]) rfl rfl ⟨x, 1, _, N.rv, rfl, cells_ptr hn1.ob, rfl, hnd_nam rfl hr1⟩ ?_
    refine sem_step (layG1 G lt) [.agg (layL G lt).cells.toArray] ((Env.ofL [tok (layG1 G lt).length]).ans (encG (layG2 G lt))) rfl ?_ ⟨false, (layL G lt).cells, rfl, ?_, fun v hv => ?_, rfl, rfl⟩ ?_
    · show [Value.agg #[.int .i64 lt.f, .int .i64 lt.t, oneOf (layL G lt).v], _] = _
      rw [oneOf_eq hc1]
      rfl
    · simp [Value.cells, Lt.cells]
    · have : v = .agg (layL G lt).cells.toArray := by simpa using hv
      subst this
      refine ⟨rfl, fun c hc => ?_, fun cs e => by cases e⟩
      simp [Value.cells, Lt.cells] at hc
      rcases hc with rfl | rfl | rfl
      · rfl
      · rfl
      · exact hc1
    have hsl2 : Sl (layG2 G lt) (tok (layG1 G lt).length) 3 1 (layL G lt).cells := by
      refine .inr ⟨(layG1 G lt).length, 0, (layL G lt).cells, ⟨_, rfl, .inl ⟨(layL G lt).cells, .inl ?_, rfl, rfl⟩⟩, ?_, by show 0 + 1 * 3 ≤ 3; omega, rfl⟩
      · show (layG1 G lt ++ [_])[(layG1 G lt).length]? = _
        simp
      · refine cells_row (s := 3) (len := 1) ?_
        show (layG1 G lt ++ [_])[(layG1 G lt).length]? = _
        simp
    refine sem_step (layG2 G lt) [N.rv, tok (layG1 G lt).length] ((Env.ofL [tok (layG2 G lt).length]).ans (encG (layG3 G N lt))) rfl (by show [oneOf N.rv, _, _] = _; rw [oneOf_eq hr1]; rfl)
      ⟨N.rv, _, N.row.length, 1, rowC N.row, (layL G lt).cells, rfl, hsl2, by omega, by omega, .inr ⟨by decide, hn2.row, rfl, false, rfl⟩⟩ ?_
    have hx3 : (layG3 G N lt)[x]? = some (.ptr N.cells) := by
      unfold layG3
      rw [List.getElem?_append_left (by rw [killV_length]; exact (List.getElem?_eq_some_iff.1 hn2.ob).1), killV_other hn2.row]
      · exact hn2.ob
      · intro e
        rcases hn2.row with ⟨e', _⟩ | ⟨d, e', hr⟩
        · rw [e'] at e; cases e
        · rw [e'] at e
          have : d = x := by simpa [tok] using e
          subst this
          have := hn2.ob
          rw [hr] at this
          cases this
    refine sem_step (layG3 G N lt) [tokAt x 1, tok (layG2 G lt).length] ((Env.ofL []).ans (encG (layG G x N lt))) rfl rfl ⟨x, 1, _, .ptr N.cells, N.cells, rfl, hx3, rfl, rfl, rfl, fun u hu => ?_, fun cs e => (by cases e), by show 1 + 1 ≤ 7; omega, ?_⟩ ?_
    · have : u = tok (layG2 G lt).length := by simpa [Value.cells, tok] using hu
      subst this
      rfl
    · have e : (tok (layG2 G lt).length).cells.toList = [tok (layG2 G lt).length] := rfl
      rw [e, overV_set _ _ _ (by show 1 < 7; omega)]
      show noTup (encG (layG G x N lt)) = _
      unfold layG
      rw [if_pos hb]
      rfl
    · refine sem_retG rfl ?_ trivial (by rw [hG]; rfl)
      show Value.bool true = Value.bool (e0.b 0)
      rw [he, hb]
end Go.Proofs.Yteklnfajpignoaa
