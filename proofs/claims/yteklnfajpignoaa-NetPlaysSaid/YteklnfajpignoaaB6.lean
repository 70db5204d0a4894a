/- What is proved: the contracts of a net's Send, Double and Cut. No condition. -/
import Derived.Test.YteklnfajpignoaaB4
namespace Go.Proofs.Yteklnfajpignoaa
open Go.RowKit Sx
set_option maxRecDepth 100000

def c2 : List Con := [betweenC, lookC, layC, oneC] ++ pr
def c2S : List ConS := [conR betweenR, conR lookR, conR layR, conR oneR] ++ prS
theorem c2_holds : Cons Try.prog c2 c2S := ⟨between_holds, look_holds, lay_holds, one_holds, pr_holds⟩
/-- Send. -/
def sendOk (N : NetM) (l : Lt) : Bool := wayB N.nodes l.f l.t && decide (l.bs.length ≤ 400) && layB N
def sendN1 (G : List Ob) (N : NetM) (l : Lt) : NetM := { layN1 G N l with sent := inc N.sent }
def sendN (G : List Ob) (N : NetM) (l : Lt) : NetM := if sendOk N l then sendN1 G N l else N
def sendG (G : List Ob) (x : Nat) (N : NetM) (l : Lt) : List Ob := if sendOk N l then (layG G x N l).set x (.ptr (sendN1 G N l).cells) else G
theorem Step.send {G : List Ob} {x : Nat} {N : NetM} {l : Lt} (h : IsNet G x N) (hl : Sl G l.v 1 l.bs.length (l.bs.map (Value.int .u8))) : Step x N G (sendN G N l) (sendG G x N l) := by
  unfold sendN sendG
  by_cases hb : sendOk N l = true
  rotate_left
  · rw [if_neg hb, if_neg hb]; exact Step.refl h
  rw [if_pos hb, if_pos hb]
  simp only [sendOk, Bool.and_eq_true, decide_eq_true_eq] at hb
  have h1 := Step.lay h ⟨hl, hb.1.2⟩
  unfold layN at h1
  rw [if_pos hb.2] at h1
  exact h1.trans (Step.put h1.is_ rfl rfl rfl rfl)
def sendR (G : List Ob) (l : List Value) (e : Env) : Prop := ∃ x N lt, l = [tokAt x 0, .int .i64 lt.f, .int .i64 lt.t, lt.v] ∧ IsNet G x N ∧ Sl G lt.v 1 lt.bs.length (lt.bs.map (Value.int .u8)) ∧ e.b 0 = sendOk N lt ∧ e.g gv = encG (sendG G x N lt)
def sendC : Con := mkCon 21 [] (.bool (.var 0)) 2
def treeSend : Tree :=
 (.call 0 4200 [(.pla (.var 0) (.lit 0) 0), (.int .i64 (.var 1)), (.int .i64 (.var 2)), (.var 199)]
 (.split (.var 4202)
 (.or
 (.call 10 14200 [(.hnd 3), (.var 5199)]
 (.call 2 23200 [(.pla (.var 0) (.lit 0) 0), (.agg ([(.int .i64 (.var 1)), (.int .i64 (.var 2)), (.hnd 3)])), (.var 5199)]
 (.call 3 28200 [(.bool (.var 23200)), (.pla (.var 0) (.lit 0) 3), (.var 24199)]
 (.need (.cmp .leq (.var 14200) (.lit 400)) (leafG (.bool (.var 28200)) .nil 29199)))))
 (.call 10 14200 [(.hnd 3), (.var 5199)]
 (.call 3 28200 [(.bool (.lit false)), (.pla (.var 0) (.lit 0) 3), (.var 5199)]
 (.need (.not (.cmp .leq (.var 14200) (.lit 400))) (leafG (.bool (.var 28200)) .nil 29199)))))
 (.call 3 28200 [(.bool (.lit false)), (.pla (.var 0) (.lit 0) 3), (.var 5199)]
 (leafG (.bool (.var 28200)) .nil 29199))))
theorem send_holds : sendC.holds Try.prog (conR sendR) := by
  refine con_of_runG (cs := c2) (S := c2S) (LT := []) (depth := 1) (fuel := 10) (nv := 200) (av := [net, .int .i64 (.var 1), .int .i64 (.var 2), .hnd 3]) (T := treeSend) c2_holds (by kernel_rfl) (by kernel_rfl) (by kernel_rfl) ?_
  rintro G l e0 ⟨x, N, lt, rfl, hN, hsl, he, hG⟩
  have hv1 := hsl.one
  refine ⟨noLoops, (Env.ofL [.int .i64 x, .int .i64 lt.f, .int .i64 lt.t, lt.v]).st (encG G), ?_, rfl, ?_⟩
  · show _ = [_, _, _, oneOf lt.v]
    rw [oneOf_eq hv1]
    rfl
  refine sem_step G [tokAt x 0, .int .i64 lt.f, .int .i64 lt.t] ((Env.ofL [.int .i64 (intMin lt.f lt.t), .int .i64 (intMax lt.f lt.t), .bool (wayB N.nodes lt.f lt.t)]).ans (encG G)) rfl rfl ⟨x, N, _, _, rfl, hN, rfl, rfl, rfl, rfl⟩ ?_
  have stay : sendOk N lt = false → sendG G x N lt = G := fun h => by unfold sendG; rw [if_neg (by rw [h]; simp)]
  refine sem_split (fun h => ?_) (fun h => ?_)
  · have hw : wayB N.nodes lt.f lt.t = true := h
    by_cases hlen : lt.bs.length ≤ 400
    · refine sem_or1 ?_
      refine sem_step G [lt.v] (Env.ofL [.int .i64 lt.bs.length]) rfl (by show [oneOf lt.v, _] = _; rw [oneOf_eq hv1]; rfl) ⟨lt.v, 1, _, _, rfl, hsl, rfl⟩ ?_
      have hlt : LtOk G lt := ⟨hsl, hlen⟩
      refine sem_step G [tokAt x 0, .agg lt.cells.toArray] ((Env.ofL [.bool (layB N)]).ans (encG (layG G x N lt))) rfl ?_ ⟨x, N, lt, rfl, hN, hlt, rfl, rfl⟩ ?_
      · show [_, Value.agg #[.int .i64 lt.f, .int .i64 lt.t, oneOf lt.v], _] = _
        rw [oneOf_eq hv1]
        rfl
      have hst := Step.lay hN hlt
      have hok : sendOk N lt = layB N := by unfold sendOk; rw [hw, decide_eq_true hlen]; rfl
      have hsent : (layN G N lt).cells[3]? = some (.int .i64 N.sent) := by unfold layN; split <;> rfl
      refine sem_step (layG G x N lt) [.bool (layB N), tokAt x 3] ((Env.ofL [.bool (layB N)]).ans (encG (oneG (layG G x N lt) x 3 (layN G N lt).cells N.sent (layB N)))) rfl rfl ⟨layB N, x, 3, _, _, rfl, hst.is_.ob, hsent, rfl, rfl⟩ ?_
      refine sem_need (by show decide ((lt.bs.length : Int) ≤ 400) = true; rw [decide_eq_true_eq]; omega) ?_
      refine sem_retG rfl (by show Value.bool (layB N) = Value.bool (e0.b 0); rw [he, hok]) trivial ?_
      rw [hG]
      show noTup (encG (oneG (layG G x N lt) x 3 (layN G N lt).cells N.sent (layB N))) = _
      unfold oneG sendG layN
      rw [hok]
      by_cases hb : layB N = true
      · rw [if_pos hb, if_pos hb, if_pos hb]; rfl
      · rw [if_neg hb, if_neg hb]; unfold layG; rw [if_neg hb]; rfl
    · refine sem_or2 ?_
      have hok : sendOk N lt = false := by unfold sendOk; rw [decide_eq_false hlen]; simp
      refine sem_step G [lt.v] (Env.ofL [.int .i64 lt.bs.length]) rfl (by show [oneOf lt.v, _] = _; rw [oneOf_eq hv1]; rfl) ⟨lt.v, 1, _, _, rfl, hsl, rfl⟩ ?_
      refine sem_step G [.bool false, tokAt x 3] ((Env.ofL [.bool false]).ans (encG G)) rfl rfl ⟨false, x, 3, _, N.sent, rfl, hN.ob, rfl, rfl, rfl⟩ ?_
      refine sem_need (by show (!decide ((lt.bs.length : Int) ≤ 400)) = true; rw [Bool.not_eq_true', decide_eq_false_iff_not]; omega) ?_
      exact sem_retG rfl (by show Value.bool false = Value.bool (e0.b 0); rw [he, hok]) trivial (by rw [hG, stay hok]; rfl)
  · have hw : wayB N.nodes lt.f lt.t = false := h
    have hok : sendOk N lt = false := by unfold sendOk; rw [hw]; rfl
    refine sem_step G [.bool false, tokAt x 3] ((Env.ofL [.bool false]).ans (encG G)) rfl rfl ⟨false, x, 3, _, N.sent, rfl, hN.ob, rfl, rfl, rfl⟩ ?_
    exact sem_retG rfl (by show Value.bool false = Value.bool (e0.b 0); rw [he, hok]) trivial (by rw [hG, stay hok]; rfl)
/-- Double. -/
theorem look_ext (G : List Ob) (N : NetM) (k : Int) : ∃ X, lookG G N k = G ++ X := by
  unfold lookG
  split
  · exact cloneG_ext _ _ _ _ _
  · exact ⟨[], by simp⟩
theorem look_ok {G : List Ob} {x : Nat} {N : NetM} (h : IsNet G x N) (k : Int) : LtOk (lookG G N k) (lookL G N k) := by
  unfold lookG lookL
  by_cases hb : lookB N k = true
  · rw [if_pos hb, if_pos hb]
    have hbody := h.body _ (List.mem_of_getElem? (lookB_spec hb).1)
    refine ⟨?_, hbody.2⟩
    have := clone_row hbody.1.sl
    exact dst_sl this (by simp)
  · rw [if_neg hb, if_neg hb]
    exact ⟨.inl ⟨rfl, rfl, rfl⟩, Nat.zero_le _⟩
def dblOk (N : NetM) (k : Int) : Bool := lookB N k && layB N
def dblN1 (G : List Ob) (N : NetM) (k : Int) : NetM := { layN1 (lookG G N k) N (lookL G N k) with doubled := inc N.doubled }
def dblN (G : List Ob) (N : NetM) (k : Int) : NetM := if dblOk N k then dblN1 G N k else N
def dblG (G : List Ob) (x : Nat) (N : NetM) (k : Int) : List Ob := if dblOk N k then (layG (lookG G N k) x N (lookL G N k)).set x (.ptr (dblN1 G N k).cells) else lookG G N k
theorem Step.look {G : List Ob} {x : Nat} {N : NetM} (h : IsNet G x N) (k : Int) : Step x N G N (lookG G N k) := by
  obtain ⟨X, hX⟩ := look_ext G N k
  rw [hX]
  exact Step.push h
theorem Step.dbl {G : List Ob} {x : Nat} {N : NetM} (h : IsNet G x N) (k : Int) : Step x N G (dblN G N k) (dblG G x N k) := by
  have h0 := Step.look h k
  unfold dblN dblG
  by_cases hb : dblOk N k = true
  rotate_left
  · rw [if_neg hb, if_neg hb]; exact h0
  rw [if_pos hb, if_pos hb]
  simp only [dblOk, Bool.and_eq_true] at hb
  have h1 := Step.lay h0.is_ (look_ok h k)
  unfold layN at h1
  rw [if_pos hb.2] at h1
  exact h0.trans (h1.trans (Step.put h1.is_ rfl rfl rfl rfl))
def dblR (G : List Ob) (l : List Value) (e : Env) : Prop := ∃ x N k, l = [tokAt x 0, .int .i64 k] ∧ IsNet G x N ∧ e.b 0 = dblOk N k ∧ e.g gv = encG (dblG G x N k)
def dblC : Con := mkCon 25 [] (.bool (.var 0)) 2
def treeDouble : Tree :=
 (.call 1 3200 [(.pla (.var 0) (.lit 0) 0), (.int .i64 (.var 1)), (.var 199)]
 (.split (.var 3203)
 (.call 2 14200 [(.pla (.var 0) (.lit 0) 0), (.agg ([(.int .i64 (.var 3200)), (.int .i64 (.var 3201)), (.hnd 3202)])), (.var 4199)]
 (.call 3 19200 [(.bool (.var 14200)), (.pla (.var 0) (.lit 0) 4), (.var 15199)]
 (leafG (.bool (.var 19200)) .nil 20199)))
 (.call 3 19200 [(.bool (.lit false)), (.pla (.var 0) (.lit 0) 4), (.var 4199)]
 (leafG (.bool (.var 19200)) .nil 20199))))
theorem dbl_holds : dblC.holds Try.prog (conR dblR) := by
  refine con_of_runG (cs := c2) (S := c2S) (LT := []) (depth := 1) (fuel := 10) (nv := 200) (av := [net, .int .i64 (.var 1)]) (T := treeDouble) c2_holds (by kernel_rfl) (by kernel_rfl) (by kernel_rfl) ?_
  rintro G l e0 ⟨x, N, k, rfl, hN, he, hG⟩
  have hl1 := lookL_one G N k
  refine ⟨noLoops, (Env.ofL [.int .i64 x, .int .i64 k]).st (encG G), rfl, rfl, ?_⟩
  refine sem_step G [tokAt x 0, .int .i64 k] ((Env.ofL ((lookL G N k).cells ++ [.bool (lookB N k)])).ans (encG (lookG G N k))) rfl rfl ⟨x, N, k, rfl, hN, rfl, rfl, rfl, rfl, rfl⟩ ?_
  have h0 := Step.look hN k
  refine sem_split (fun h => ?_) (fun h => ?_)
  · have hb : lookB N k = true := h
    have hlt := look_ok hN k
    refine sem_step (lookG G N k) [tokAt x 0, .agg (lookL G N k).cells.toArray] ((Env.ofL [.bool (layB N)]).ans (encG (layG (lookG G N k) x N (lookL G N k)))) rfl ?_ ⟨x, N, _, rfl, h0.is_, hlt, rfl, rfl⟩ ?_
    · show [_, Value.agg #[.int .i64 (lookL G N k).f, .int .i64 (lookL G N k).t, oneOf (lookL G N k).v], _] = _
      rw [oneOf_eq hl1]
      rfl
    have hst := Step.lay h0.is_ hlt
    have hok : dblOk N k = layB N := by unfold dblOk; rw [hb]; rfl
    have hcnt : (layN (lookG G N k) N (lookL G N k)).cells[4]? = some (.int .i64 N.doubled) := by unfold layN; split <;> rfl
    refine sem_step (layG (lookG G N k) x N (lookL G N k)) [.bool (layB N), tokAt x 4] ((Env.ofL [.bool (layB N)]).ans (encG (oneG (layG (lookG G N k) x N (lookL G N k)) x 4 (layN (lookG G N k) N (lookL G N k)).cells N.doubled (layB N)))) rfl rfl ⟨layB N, x, 4, _, _, rfl, hst.is_.ob, hcnt, rfl, rfl⟩ ?_
    refine sem_retG rfl (by show Value.bool (layB N) = Value.bool (e0.b 0); rw [he, hok]) trivial ?_
    rw [hG]
    show noTup (encG (oneG _ x 4 (layN (lookG G N k) N (lookL G N k)).cells N.doubled (layB N))) = _
    unfold oneG dblG layN
    rw [hok]
    by_cases hb : layB N = true
    · rw [if_pos hb, if_pos hb, if_pos hb]; rfl
    · rw [if_neg hb, if_neg hb]; unfold layG; rw [if_neg hb]; rfl
  · have hb : lookB N k = false := h
    have hok : dblOk N k = false := by unfold dblOk; rw [hb]; rfl
    refine sem_step (lookG G N k) [.bool false, tokAt x 4] ((Env.ofL [.bool false]).ans (encG (lookG G N k))) rfl rfl ⟨false, x, 4, _, N.doubled, rfl, h0.is_.ob, rfl, rfl, rfl⟩ ?_
    refine sem_retG rfl (by show Value.bool false = Value.bool (e0.b 0); rw [he, hok]) trivial ?_
    rw [hG]
    unfold dblG
    rw [if_neg (by rw [hok]; simp)]
    rfl
/-- Cut. -/
def keyOf (a b : Int) : Value := .agg #[.int .i64 (intMin a b), .int .i64 (intMax a b)]
noncomputable def cutN1 (N : NetM) (a b : Int) (c : Bool) : NetM := { N with cuts := putL N.cuts (keyOf a b) (.bool c) }
noncomputable def cutN (N : NetM) (a b : Int) (c : Bool) : NetM := if wayB N.nodes a b then cutN1 N a b c else N
noncomputable def cutG (G : List Ob) (N : NetM) (a b : Int) (c : Bool) : List Ob := if wayB N.nodes a b then G.set N.m (.map (putL N.cuts (keyOf a b) (.bool c))) else G
theorem keyOf_ok (a b : Int) : IntsKey 2 .i64 (keyOf a b) := ⟨[intMin a b, intMax a b], rfl, rfl⟩
theorem Step.cut {G : List Ob} {x : Nat} {N : NetM} (h : IsNet G x N) (a b : Int) (c : Bool) : Step x N G (cutN N a b c) (cutG G N a b c) := by
  unfold cutN cutG
  by_cases hb : wayB N.nodes a b = true
  rotate_left
  · rw [if_neg hb, if_neg hb]; exact Step.refl h
  rw [if_pos hb, if_pos hb]
  have hml := (List.getElem?_eq_some_iff.1 h.map).1
  have ne : ∀ (n : Nat) o L, G[n]? = some o → (∀ c, o ≠ .map c) → (G.set N.m (.map L))[n]? = some o := fun n o L ho hno => by
    rw [List.getElem?_set_ne]
    · exact ho
    · rintro rfl; rw [h.map] at ho; cases ho; exact hno _ rfl
  refine ⟨⟨ne _ _ _ h.ob fun c e => (by cases e), ?_, fun l hl => ⟨(h.body l hl).1.keep fun n s l c h => ne _ _ _ h fun c e => (by cases e), (h.body l hl).2⟩, List.getElem?_set_self hml, fun p hp => ?_, h.len⟩, ⟨by simp, fun n o ho _ hm _ => by rw [List.getElem?_set_ne (Ne.symm hm)]; exact ho⟩, .inl rfl, rfl⟩
  · rcases h.row with hr | ⟨d, e, hr⟩
    · exact .inl hr
    · exact .inr ⟨d, e, ne _ _ _ hr fun c e => by cases e⟩
  · rcases putL_mem p hp with rfl | hp
    · exact ⟨keyOf_ok a b, c, rfl⟩
    · exact h.keys p hp
def cutR (G : List Ob) (l : List Value) (e : Env) : Prop := ∃ x N a b c, l = [tokAt x 0, .int .i64 a, .int .i64 b, .bool c] ∧ IsNet G x N ∧ e.b 0 = wayB N.nodes a b ∧ e.g gv = encG (cutG G N a b c)
def cutC : Con := mkCon 23 [] (.bool (.var 0)) 2
def treeCut : Tree :=
 (.call 0 4200 [(.pla (.var 0) (.lit 0) 0), (.int .i64 (.var 1)), (.int .i64 (.var 2)), (.var 199)]
 (.split (.var 4202)
 (.call 6 15200 [(.pla (.var 0) (.lit 0) 2), (.var 5199)]
 (.call 21 18200 [(.hnd 15200), (.agg ([(.int .i64 (.var 4200)), (.int .i64 (.var 4201))])), (.bool (.var 3)), (.var 5199)]
 (leafG (.bool (.var 4202)) .nil 19199)))
 (leafG (.bool (.var 4202)) .nil 5199)))
theorem cut_holds : cutC.holds Try.prog (conR cutR) := by
  refine con_of_runG (cs := c2) (S := c2S) (LT := []) (depth := 1) (fuel := 10) (nv := 200) (av := [net, .int .i64 (.var 1), .int .i64 (.var 2), .bool (.var 3)]) (T := treeCut) c2_holds (by kernel_rfl) (by kernel_rfl) (by kernel_rfl) ?_
  rintro G l e0 ⟨x, N, a, b, c, rfl, hN, he, hG⟩
  refine ⟨noLoops, (Env.ofL [.int .i64 x, .int .i64 a, .int .i64 b, .bool c]).st (encG G), rfl, rfl, ?_⟩
  refine sem_step G [tokAt x 0, .int .i64 a, .int .i64 b] ((Env.ofL [.int .i64 (intMin a b), .int .i64 (intMax a b), .bool (wayB N.nodes a b)]).ans (encG G)) rfl rfl ⟨x, N, _, _, rfl, hN, rfl, rfl, rfl, rfl⟩ ?_
  unfold cutG at hG
  refine sem_split (fun h => ?_) (fun h => ?_)
  · have hw : wayB N.nodes a b = true := h
    rw [if_pos hw] at hG
    refine sem_step G [tokAt x 2] (Env.ofL [tok N.m]) rfl rfl ⟨x, 2, _, tok N.m, rfl, cells_ptr hN.ob, rfl, rfl⟩ ?_
    refine sem_step G [tok N.m, keyOf a b, .bool c] ((Env.ofL []).ans (encG (G.set N.m (.map (putL N.cuts (keyOf a b) (.bool c)))))) rfl rfl ⟨N.m, N.cuts, _, _, rfl, hN.map, keyOf_ok a b, fun p hp => (hN.keys p hp).1, rfl⟩ ?_
    exact sem_retG rfl (by show Value.bool (wayB N.nodes a b) = Value.bool (e0.b 0); rw [he]) trivial (by rw [hG]; rfl)
  · have hw : wayB N.nodes a b = false := h
    rw [if_neg (by rw [hw]; simp)] at hG
    exact sem_retG rfl (by show Value.bool (wayB N.nodes a b) = Value.bool (e0.b 0); rw [he]) trivial (by rw [hG]; rfl)
end Go.Proofs.Yteklnfajpignoaa
