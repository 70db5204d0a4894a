/- What is proved: the contracts of SpoilBytes, and of the Look of the document's net; the contracts of the Send, Double, Deliver and Lose of the document's net. No condition but those each law names. -/
import Derived.Test.YteklnfajpignoaaR1
namespace Go.Proofs.Yteklnfajpignoaa
open Sx hiding Sl
set_option maxRecDepth 100000

def copy1C : Con := { mkCon 22 [] (.hnd 0) 2 with wr := 1 }
theorem copy1_holds : copy1C.holds Try.prog (conR copyR) :=
  wr_of 1 copy_holds (fun G l e ⟨v, bs, _, _, _, _, hG⟩ => ⟨_, hG, (cpG G bs).drop G.length, by
    have h := cp_at G bs
    have hl := h.len
    apply List.ext_getElem?
    intro j
    by_cases hj : j < G.length
    · rw [List.getElem?_append_left hj, List.getElem?_eq_getElem hj]
      exact h.keep j _ (List.getElem?_eq_getElem hj)
    · rw [List.getElem?_append_right (by omega), List.getElem?_drop, show G.length + (j - G.length) = j by omega]⟩)
/-- What a slice leads to is another. -/
def putV (G : List Ob) (v : Value) (o : Ob) : List Ob := match v with
  | .pointer (some a) => G.set a.block o
  | _ => G
theorem putV_tok (G : List Ob) (d : Nat) (o : Ob) : putV G (tok d) o = G.set d o := rfl
theorem putV_length (G : List Ob) (v : Value) (o : Ob) : (putV G v o).length = G.length := by unfold putV; split <;> simp
theorem putV_self {G : List Ob} {v : Value} {s len : Nat} {xs : List Value} (h : Dst G v s len xs) : putV G v (.row s len xs) = G := by
  rcases h with ⟨rfl, _⟩ | ⟨d, rfl, h⟩
  · rfl
  · rw [putV_tok]
    apply List.ext_getElem?
    intro j
    by_cases e : d = j
    · subst e
      rw [List.getElem?_set_self (List.getElem?_eq_some_iff.1 h).1, h]
    · rw [List.getElem?_set_ne e]
theorem putV_dst {G : List Ob} {v : Value} {s len : Nat} {xs ys : List Value} (h : Dst G v s len xs) (hy : ys.length = xs.length) : Dst (putV G v (.row s len ys)) v s len ys := by
  rcases h with ⟨rfl, h1, rfl⟩ | ⟨d, rfl, h⟩
  · exact .inl ⟨rfl, h1, List.length_eq_zero_iff.1 hy⟩
  · exact .inr ⟨d, rfl, by rw [putV_tok, List.getElem?_set_self (List.getElem?_eq_some_iff.1 h).1]⟩
theorem putV_other {G : List Ob} {v : Value} {s len : Nat} {xs : List Value} (h : Dst G v s len xs) (o : Ob) {n : Nat} (hn : v ≠ tok n) : (putV G v o)[n]? = G[n]? := by
  rcases h with ⟨rfl, _⟩ | ⟨d, rfl, _⟩
  · rfl
  · rw [putV_tok, List.getElem?_set_ne (fun e => hn (by rw [e]))]
theorem putV_put {G : List Ob} {v : Value} {s len : Nat} {xs : List Value} (h : Dst G v s len xs) (o o' : Ob) : putV (putV G v o) v o' = putV G v o' := by
  rcases h with ⟨rfl, _⟩ | ⟨d, rfl, _⟩
  · rfl
  · rw [putV_tok, putV_tok, putV_tok, List.set_set]
/-- SpoilBytes. -/
def mkI (i : Int) : Int := IntKind.u8.wrap (IntKind.i64.wrap (201 + IntKind.i64.wrap (7 * IntKind.i64.wrap (i + 7))))
def marks (n : Nat) : List Value := (List.range n).map fun (i : Nat) => Value.int .u8 (mkI i)
def spG (G : List Ob) (v : Value) (n : Nat) : List Ob := putV G v (.row 1 n (marks n))
def spoilR (G : List Ob) (l : List Value) (e : Env) : Prop := ∃ v n cells, l = [v] ∧ Dst G v 1 n cells ∧ cells.length = n ∧ n ≤ 1000000 ∧ e.g gv = encG (spG G v n)
def spoilC : Con := mkCon 29 [] (.tup []) 2
def spLQ (G : List Ob) (v : Value) (n : Nat) (cells : List Value) : LoopS := ⟨fun _ nv ρ => ∃ j : Nat, ρ.g (nv + 999) = encG (putV G v (.row 1 n (marks j ++ cells.drop j))) ∧ ρ.i nv = j ∧ j ≤ n, fun _ nv ρ => ((n : Int) - ρ.i nv).toNat⟩
theorem marks_succ {j : Nat} {cells : List Value} (h : j < cells.length) : (marks j ++ cells.drop j).set j (Value.int .u8 (mkI j)) = marks (j + 1) ++ cells.drop (j + 1) := by
  have hm : (marks j).length = j := by simp [marks]
  rw [List.set_append_right _ _ (by omega), hm, Nat.sub_self, List.drop_eq_getElem_cons h, List.set_cons_zero]
  unfold marks
  rw [List.range_succ, List.map_append, List.append_assoc]
  rfl
def treeSpoil : Tree :=
 (.loop 1 1200 [(1200, (.int .i64 (.lit 0))), (2199, (.var 199))]
 (.call 8 4200 [(.hnd 0), (.var 2199)]
 (.split (.cmp .lss (.var 1200) (.var 4200))
 (.call 11 22200 [(.hnd 0), (.int .i64 (.var 1200)), (.var 2199)]
 (.call 14 23200 [(.pla (.var 22200) (.var 22201) 0), (.int .u8 (.wrap .u8 (.bin .add .i64 (.lit 201) (.bin .mul .i64 (.lit 7) (.bin .add .i64 (.var 1200) (.lit 7)))))), (.var 2199)]
 (.again 1 1200 [(1200, (.int .i64 (.bin .add .i64 (.var 1200) (.lit 1)))), (2199, (.var 24199))])))
 (leafG (.tup ([])) .nil 2199))))
theorem spoil_holds : spoilC.holds Try.prog (conR spoilR) := by
  refine con_of_runG (cs := rp) (S := rpS) (LT := [(1, ⟨[(2, fun b => .int .i64 (.var b))], [], [], true⟩)]) (depth := 1) (fuel := 10) (nv := 200) (av := [.hnd 0]) (T := treeSpoil) rp_holds (by kernel_rfl) (by kernel_rfl) (by kernel_rfl) ?_
  rintro G l e0 ⟨v, n, cells, rfl, hv, hcl, hn, hG⟩
  have o1 := hv.one
  refine ⟨spLQ G v n cells, (Env.ofL [v]).st (encG G), by show [v] = [oneOf v]; rw [oneOf_eq o1], rfl, ?_⟩
  refine sem_loop (Env.from_ _ 1200 ((Env.ofL [.int .i64 0]).ans (encG G))) (Env.from_ag _ _ _) rfl ⟨0, ?_, rfl, Nat.zero_le _⟩ (by kernel_rfl) (fun ρ1 ρ2 h => ?_) (fun ρ hag hinv => ?_)
  · show encG G = _
    rw [show marks 0 ++ cells.drop 0 = cells from rfl, putV_self hv]
  · show ((n : Int) - ρ2.i 1200).toNat = ((n : Int) - ρ1.i 1200).toNat
    rw [(h 1200 (by decide)).1]
  obtain ⟨j, hg, hi, hk⟩ := hinv
  have hi : ρ.i 1200 = j := hi
  have x0 : ρ.v 0 = v := (hag 0 (by decide)).2.2
  have hml : (marks j ++ cells.drop j).length = cells.length := by simp [marks]; omega
  have hd := putV_dst hv hml
  obtain ⟨Gj, hGj⟩ : ∃ g, g = putV G v (.row 1 n (marks j ++ cells.drop j)) := ⟨_, rfl⟩
  rw [← hGj] at hg hd
  have hg : ρ.g 2199 = encG Gj := hg
  have hsl := dst_sl hd (by rw [hml, hcl]; omega)
  refine sem_step Gj [v] (Env.ofL [.int .i64 n]) rfl (by show [oneOf (ρ.v 0), ρ.g 2199] = _; rw [x0, hg, oneOf_eq o1]; rfl) ⟨v, 1, _, _, rfl, hsl, rfl⟩ ?_
  refine sem_split (fun h => ?_) (fun h => ?_)
  · have h : ρ.i 1200 < (n : Int) := of_decide_eq_true h
    rcases hd with ⟨_, h0, _⟩ | ⟨d, hvd, hdG⟩
    · omega
    have hw := wrap_up' (i := ρ.i 1200) (by omega) (by omega)
    have hmk : (Value.int .u8 (mkI (ρ.i 1200))) = Value.int .u8 (mkI j) := by rw [hi]
    obtain ⟨Gn, hGn⟩ : ∃ g, g = putV G v (.row 1 n (marks (j + 1) ++ cells.drop (j + 1))) := ⟨_, rfl⟩
    have hnx : Gj.set d (.row 1 n ((marks j ++ cells.drop j).set j (Value.int .u8 (mkI j)))) = Gn := by rw [marks_succ (by omega), hGn, hGj, hvd, putV_tok, putV_tok, List.set_set]
    refine sem_step Gj [v, .int .i64 (ρ.i 1200)] (Env.ofL [.int .i64 d, .int .i64 ((0 + (ρ.i 1200).toNat * 1 : Nat) : Int)]) rfl (by show [oneOf (ρ.v 0), Value.int .i64 (ρ.i 1200), ρ.g 2199] = _; rw [x0, hg, oneOf_eq o1]; rfl)
      ⟨_, _, ρ.i 1200, d, 0, n, _, by rw [hvd], ⟨d, rfl, .inl ⟨_, .inl hdG, rfl, rfl⟩⟩, cells_row hdG, by rw [hml]; omega, by omega, by omega, by decide, rfl, rfl⟩ ?_
    refine sem_step Gj [tokAt d j, .int .u8 (mkI j)] ((Env.ofL []).ans (encG Gn)) rfl ?_ ⟨d, j, _, .row 1 n (marks j ++ cells.drop j), _, rfl, hdG, rfl, rfl, rfl, fun u hu => ?_, fun cs e => (by cases e), by rw [hml]; show j + 1 ≤ _; omega, ?_⟩ ?_
    · show [tokAt d ((0 + (ρ.i 1200).toNat * 1) + 0), Value.int .u8 (mkI (ρ.i 1200)), ρ.g 2199] = _
      rw [hg, hi, Int.toNat_natCast]
      simp
    · have : u = .int .u8 (mkI j) := by simpa [Value.cells] using hu
      subst this
      rfl
    · have e : (Value.int .u8 (mkI j)).cells.toList = [.int .u8 (mkI j)] := rfl
      rw [e, overV_set _ _ _ (by rw [hml]; omega)]
      show noTup (encG Gn) = _
      rw [← hnx]
      rfl
    refine sem_again (Env.from_ _ 1200 ((Env.ofL [.int .i64 (ρ.i 1200 + 1)]).ans (encG Gn))) (Env.from_ag _ _ _) ?_ ⟨j + 1, ?_, ?_, by omega⟩ ?_
    · show [Value.int .i64 (ρ.i 1200 + 1), encG Gn] = [Value.int .i64 (IntKind.i64.wrap (ρ.i 1200 + 1)), encG Gn]
      rw [hw]
    · show encG Gn = _
      rw [hGn]
    · show ρ.i 1200 + 1 = _
      rw [hi]; rfl
    · show ((n : Int) - (ρ.i 1200 + 1)).toNat < ((n : Int) - ρ.i 1200).toNat
      omega
  · have h : ¬ ρ.i 1200 < (n : Int) := of_decide_eq_false h
    have hjn : j = n := by omega
    subst hjn
    refine sem_retG rfl rfl trivial ?_
    rw [hG]
    show ρ.g 2199 = _
    rw [hg, hGj, List.drop_of_length_le (by omega), List.append_nil]
    rfl
def rc1 : List Con := [rwayC, rwaitsC, copy1C, placeC, iscutC] ++ rp
def rc1S : List ConS := [conR rwayR, conR rwaitsR, conR copyR, conR placeR, conR iscutR] ++ rpS
theorem rc1_holds : Cons Try.prog rc1 rc1S := ⟨rway_holds, rwaits_holds, copy1_holds, place_holds, iscut_holds, rp_holds⟩
/-- Look. -/
def rlookG (G : List Ob) (R : RefM) (k : Int) : List Ob := if R.lookB k then cpG G (R.lookO k).bs else G
def rlookL (G : List Ob) (R : RefM) (k : Int) : RL := if R.lookB k then { R.lookO k with v := cpV G (R.lookO k).bs } else ⟨0, 0, .slice none 0 0, [], false⟩
def rlookR (G : List Ob) (l : List Value) (e : Env) : Prop := ∃ y R k, l = [tokAt y 0, .int .i64 k] ∧ IsRef G y R ∧ R.all.length ≤ 1000000 ∧ e.i 0 = (rlookL G R k).f ∧ e.i 1 = (rlookL G R k).t ∧ e.v 2 = (rlookL G R k).v ∧ e.b 3 = (rlookL G R k).w ∧ e.b 4 = R.lookB k ∧ e.g gv = encG (rlookG G R k)
def rlookC : Con := mkCon 16 [] (.tup [.agg (rE 0), .bool (.var 4)]) 2
theorem RefM.look_at {R : RefM} {k : Int} (h : 0 ≤ R.place k) : ∃ p : Nat, ∃ hp : p < R.all.length, R.place k = p ∧ R.lookO k = R.all[p] := by
  rcases place_len R.all k 0 with e | ⟨p, hp, e⟩
  · have : R.place k = -1 := e
    omega
  · have e : R.place k = p := by rw [show R.place k = _ from e]; omega
    refine ⟨p, hp, e, ?_⟩
    unfold RefM.lookO
    rw [e, Int.toNat_natCast, List.getD_eq_getElem?_getD, List.getElem?_eq_getElem hp]
    rfl
theorem rl_cells {all : List Value} {p : Nat} {c : RL} (h : ∀ j, j < 4 → all[p + j]? = c.cells[j]?) : (all.drop p).take 4 = c.cells := by
  apply List.ext_getElem?
  intro j
  by_cases hj : j < 4
  · rw [List.getElem?_take_of_lt hj, List.getElem?_drop, h j hj]
  · rw [List.getElem?_eq_none (by rw [List.length_take]; omega), List.getElem?_eq_none (by show 4 ≤ j; omega)]
theorem cpV_one (G : List Ob) (bs : List Int) : (cpV G bs).oneCell' = true := (cp_at G bs).dst.one
theorem rlook_no {G : List Ob} {R : RefM} {k : Int} (h : R.lookB k = false) : rlookG G R k = G ∧ rlookL G R k = ⟨0, 0, .slice none 0 0, [], false⟩ := by
  unfold rlookG rlookL
  rw [h]
  exact ⟨rfl, rfl⟩
def treeRlook : Tree :=
 (.call 3 4200 [(.pla (.var 0) (.lit 0) 0), (.int .i64 (.var 1)), (.var 199)]
 (.split (.cmp .lss (.var 4200) (.lit 0))
 (leafG (.tup ([(.agg ([(.int .i64 (.lit 0)), (.int .i64 (.lit 0)), (.lit (.slice none 0 0)), (.bool (.lit false))])), (.bool (.lit false))])) .nil 5199)
 (.split (.cmp .lss (.var 1) (.lit 0))
 (leafG (.tup ([(.agg ([(.int .i64 (.lit 0)), (.int .i64 (.lit 0)), (.lit (.slice none 0 0)), (.bool (.lit false))])), (.bool (.lit false))])) .nil 5199)
 (.call 6 15200 [(.pla (.var 0) (.lit 0) 1), (.var 5199)]
 (.call 14 17200 [(.hnd 15200), (.int .i64 (.var 4200)), (.var 5199)]
 (.call 8 18200 [(.pla (.var 17200) (.var 17201) 0), (.var 5199)]
 (.call 2 23200 [(.hnd 18202), (.var 5199)]
 (leafG (.tup ([(.agg ([(.int .i64 (.var 18200)), (.int .i64 (.var 18201)), (.hnd 23200), (.bool (.var 18203))])), (.bool (.lit true))])) .nil 24199))))))))
theorem rlook_holds : rlookC.holds Try.prog (conR rlookR) := by
  refine con_of_runG (cs := rc1) (S := rc1S) (LT := []) (depth := 0) (fuel := 10) (nv := 200) (av := [ref, .int .i64 (.var 1)]) (T := treeRlook) rc1_holds (by kernel_rfl) (by kernel_rfl) (by kernel_rfl) ?_
  rintro G l e0 ⟨y, R, k, rfl, hR, hlen, q0, q1, q2, q3, q4, hG⟩
  refine ⟨noLoops, (Env.ofL [.int .i64 y, .int .i64 k]).st (encG G), rfl, rfl, ?_⟩
  have o1 := hR.row.one
  have no : R.lookB k = false → ∀ (ρ : Env) (h : Tr (List E)), ρ.g 5199 = encG G → treeSem rc1S noLoops (KF [] (.tup [.agg (rE 0), .bool (.var 4)]) e0 2) ρ (leafG (.tup [.agg [.int .i64 (.lit 0), .int .i64 (.lit 0), .lit (.slice none 0 0), .bool (.lit false)], .bool (.lit false)]) h 5199) := fun hb ρ h hg => by
    rw [(rlook_no hb).2] at q0 q1 q2 q3
    rw [(rlook_no hb).1] at hG
    refine sem_retG rfl ?_ trivial (by rw [hG, hg])
    show _ = Value.tuple #[.agg #[.int .i64 (e0.i 0), .int .i64 (e0.i 1), oneOf (e0.v 2), .bool (e0.b 3)], .bool (e0.b 4)]
    rw [q0, q1, q2, q3, q4, hb]
    rfl
  refine sem_step G [tokAt y 0, .int .i64 k] ((Env.ofL [.int .i64 (R.place k)]).ans (encG G)) rfl rfl ⟨y, R, k, rfl, hR, hlen, rfl, rfl⟩ ?_
  refine sem_split (fun h => ?_) (fun h => ?_)
  · have h : R.place k < 0 := of_decide_eq_true h
    exact no (by unfold RefM.lookB; rw [decide_eq_false (by omega)]; rfl) _ _ rfl
  have hp0 : ¬ R.place k < 0 := of_decide_eq_false h
  refine sem_split (fun h => ?_) (fun h => ?_)
  · have h : k < 0 := of_decide_eq_true h
    exact no (by unfold RefM.lookB; rw [decide_eq_false (show ¬ 0 ≤ k by omega), Bool.and_false]) _ _ rfl
  have hk0 : ¬ k < 0 := of_decide_eq_false h
  have hb : R.lookB k = true := by unfold RefM.lookB; rw [decide_eq_true (show 0 ≤ k by omega), decide_eq_true (show 0 ≤ R.place k by omega)]; rfl
  obtain ⟨p, hp, hpk, hlo⟩ := RefM.look_at (R := R) (k := k) (by omega)
  unfold rlookG at hG
  unfold rlookL at q0 q1 q2 q3
  rw [if_pos hb] at hG q0 q1 q2 q3
  obtain ⟨lo, hloe⟩ : ∃ l, l = R.lookO k := ⟨_, rfl⟩
  rw [← hloe] at hG q0 q1 q2 q3 hlo
  have hbody := hR.body lo (by rw [hlo]; exact List.getElem_mem _)
  have ol := hbody.1.one
  have oc := cpV_one G lo.bs
  obtain ⟨m, pp, all, g1, g2, g3, g4⟩ := sl_at hR.rows (by decide) (i := (p : Int)) (by omega) (by omega)
  have g5 := rl_cells (c := lo) fun j hj => by rw [g4 j hj, Int.toNat_natCast, rowR_at hp hj, hlo]
  refine hR.step_av rfl rfl ?_
  refine sem_step G [R.av, .int .i64 p] _ rfl (by show [oneOf R.av, Value.int .i64 (R.place k), _] = _; rw [oneOf_eq o1, hpk]; rfl) g1 ?_
  refine sem_step G [tokAt m pp] (Env.ofL lo.cells) rfl (by show [tokAt m (pp + 0), _] = _; rfl) ⟨m, pp, all, rfl, g2, g3, ?_⟩ ?_
  · rw [g5]
    show Value.agg #[.int .i64 lo.f, .int .i64 lo.t, oneOf lo.v, .bool lo.w] = _
    rw [oneOf_eq ol]
    rfl
  refine sem_step G [lo.v] ((Env.ofL [cpV G lo.bs]).ans (encG (cpG G lo.bs))) rfl (by show [oneOf lo.v, _] = _; rw [oneOf_eq ol]; rfl) ⟨lo.v, lo.bs, rfl, dst_sl hbody.1 (by simp), hbody.2, rfl, rfl⟩ ?_
  refine sem_retG rfl ?_ trivial (by rw [hG]; rfl)
  show Value.tuple #[.agg #[.int .i64 lo.f, .int .i64 lo.t, oneOf (cpV G lo.bs), .bool lo.w], .bool true] = Value.tuple #[.agg #[.int .i64 (e0.i 0), .int .i64 (e0.i 1), oneOf (e0.v 2), .bool (e0.b 3)], .bool (e0.b 4)]
  rw [q0, q1, q2, q3, q4, hb]
end Go.Proofs.Yteklnfajpignoaa

namespace Go.Proofs.Yteklnfajpignoaa
open Sx hiding Sl
set_option maxRecDepth 100000

/-- Counts turn. -/
theorem IsRef.counts {G : List Ob} {y : Nat} {R R' : RefM} (h : IsRef G y R) (h1 : R'.all = R.all) (h2 : R'.av = R.av) (h3 : R'.cuts = R.cuts) (h4 : R'.cv = R.cv) : IsRef (G.set y (.ptr R'.cells)) y R' := by
  have hl := (List.getElem?_eq_some_iff.1 h.ob).1
  have nx : ∀ (d : Nat) s len xs, G[d]? = some (.row s len xs) → (G.set y (.ptr R'.cells))[d]? = some (.row s len xs) := fun d s len xs hd => by
    rw [List.getElem?_set_ne]
    · exact hd
    · rintro rfl
      rw [h.ob] at hd
      cases hd
  exact ⟨List.getElem?_set_self hl, by rw [h1, h2]; exact Dst.mono h.row fun d => nx d _ _ _, fun l hl => by rw [h1] at hl; exact ⟨Dst.mono (h.body l hl).1 fun d => nx d _ _ _, (h.body l hl).2⟩, by rw [h3, h4]; exact Dst.mono h.cut fun d => nx d _ _ _⟩
theorem sem_rinc {S : List ConS} {LQ : LoopS} {K : Env → Ex → St → Prop} {ρ : Env} {c1 c2 b1 b2 : Nat} {vs1 vs2 : List E} {t : Tree} {G : List Ob} {y j : Nat} {R R' : RefM} {c : Int} (h : IsRef G y R) (hj : R.cells[j]? = some (.int .i64 c)) (hR' : R'.cells = R.cells.set j (.int .i64 (inc c)))
    (s1 : S[c1]? = some (conR (loadR (.int .i64 (.var 0))))) (s2 : S[c2]? = some (conR (storeR 1)))
    (h1 : E.nams ρ lay0 vs1 = [tokAt y j, encG G]) (h2 : E.nams (ρ.from_ b1 (Env.ofL [.int .i64 c])) lay0 vs2 = [tokAt y j, .int .i64 (inc c), encG G])
    (h4 : treeSem S LQ K ((ρ.from_ b1 (Env.ofL [.int .i64 c])).from_ b2 ((Env.ofL []).ans (encG (G.set y (.ptr R'.cells))))) t) : treeSem S LQ K ρ (.call c1 b1 vs1 (.call c2 b2 vs2 t)) := by
  refine sem_step G [tokAt y j] (Env.ofL [.int .i64 c]) s1 h1 ⟨y, j, _, _, rfl, cells_ptr h.ob, hj, rfl⟩ ?_
  have hjl := (List.getElem?_eq_some_iff.1 hj).1
  refine sem_step G [tokAt y j, .int .i64 (inc c)] ((Env.ofL []).ans (encG (G.set y (.ptr R'.cells)))) s2 h2 ⟨y, j, _, .ptr R.cells, R.cells, rfl, h.ob, rfl, rfl, rfl, fun u hu => ?_, fun cs e => (by cases e), by omega, ?_⟩ h4
  · have : u = .int .i64 (inc c) := by simpa [Value.cells] using hu
    subst this
    rfl
  · have e : (Value.int .i64 (inc c)).cells.toList = [.int .i64 (inc c)] := rfl
    rw [e, overV_set _ _ _ hjl, ← hR']
    rfl
/-- A letter is put behind all. -/
def rpushR (G : List Ob) (R : RefM) (l : RL) : RefM := { R with all := R.all ++ [l], av := tok (G.length + 1) }
def rlitG (G : List Ob) (l : RL) : List Ob := G ++ [.row 4 1 l.cells]
def rappG (G : List Ob) (R : RefM) (l : RL) : List Ob := killV (rlitG G l) R.av ++ [.row 4 (R.all.length + 1) (rowR R.all ++ l.cells)]
def rpushG (G : List Ob) (y : Nat) (R : RefM) (l : RL) : List Ob := (rappG G R l).set y (.ptr (rpushR G R l).cells)
theorem rapp_keep {G : List Ob} {R : RefM} {l : RL} (hd : Dst G R.av 4 R.all.length (rowR R.all)) : ∀ (n : Nat) o, G[n]? = some o → (∀ len c, o ≠ .row 4 len c) → (rappG G R l)[n]? = some o := fun n o ho hno => by
  have hn := (List.getElem?_eq_some_iff.1 ho).1
  have h2 : (rlitG G l)[n]? = some o := by unfold rlitG; rw [List.getElem?_append_left hn]; exact ho
  have hl : (rlitG G l).length = G.length + 1 := by simp [rlitG]
  unfold rappG
  rw [List.getElem?_append_left (by rw [killV_length]; omega)]
  rcases hd with ⟨e, _⟩ | ⟨d, e, hd⟩
  · rw [e]
    exact h2
  · rw [e, killV_tok, List.getElem?_set_ne]
    · exact h2
    · rintro rfl
      rw [ho] at hd
      cases hd
      exact hno _ _ rfl
theorem rapp_new {G : List Ob} {R : RefM} {l : RL} : (rappG G R l)[G.length + 1]? = some (.row 4 (R.all.length + 1) (rowR R.all ++ l.cells)) := by
  have hl : (killV (rlitG G l) R.av).length = G.length + 1 := by rw [killV_length]; simp [rlitG]
  unfold rappG
  rw [List.getElem?_append_right (by omega), hl, Nat.sub_self]
  rfl
theorem rpush_fr {G : List Ob} {y : Nat} {R : RefM} {l : RL} (h : IsRef G y R) : FrR y G (rpushG G y R l) := by
  refine ⟨by unfold rpushG rappG; rw [List.length_set, List.length_append, killV_length]; simp [rlitG]; omega, fun n o ho h1 h2 _ => ?_⟩
  unfold rpushG
  rw [List.getElem?_set_ne (Ne.symm h1)]
  exact rapp_keep h.row n o ho h2
theorem rpush_is {G : List Ob} {y : Nat} {R : RefM} {l : RL} (h : IsRef G y R) (hl : Dst G l.v 1 l.bs.length (l.bs.map (Value.int .u8)) ∧ l.bs.length ≤ 1000000) : IsRef (rpushG G y R l) y (rpushR G R l) := by
  have hyl := (List.getElem?_eq_some_iff.1 h.ob).1
  have hrl : (rappG G R l).length = G.length + 2 := by unfold rappG; rw [List.length_append, killV_length]; simp [rlitG]
  have nx : ∀ (d : Nat) s len xs, s ≠ 4 → G[d]? = some (.row s len xs) → (rpushG G y R l)[d]? = some (.row s len xs) := fun d s len xs hs hd => by
    unfold rpushG
    rw [List.getElem?_set_ne]
    · exact rapp_keep h.row d _ hd fun _ _ e => hs (by cases e; rfl)
    · rintro rfl
      rw [h.ob] at hd
      cases hd
  refine ⟨List.getElem?_set_self (by omega), .inr ⟨_, rfl, ?_⟩, fun x hx => ?_, Dst.mono h.cut fun d => nx d _ _ _ (by decide)⟩
  · unfold rpushG
    rw [List.getElem?_set_ne (by omega), rapp_new]
    show _ = some (Ob.row 4 (R.all ++ [l]).length (rowR (R.all ++ [l])))
    rw [rowR_snoc, List.length_append]
    rfl
  · rcases List.mem_append.1 hx with hx | hx
    · exact ⟨Dst.mono (h.body x hx).1 fun d => nx d _ _ _ (by decide), (h.body x hx).2⟩
    · rw [List.mem_singleton] at hx
      subst hx
      exact ⟨Dst.mono hl.1 fun d => nx d _ _ _ (by decide), hl.2⟩
def rc2 : List Con := rlookC :: rc1
def rc2S : List ConS := conR rlookR :: rc1S
theorem rc2_holds : Cons Try.prog rc2 rc2S := ⟨rlook_holds, rc1_holds⟩
theorem RL.one {l : RL} (h : l.v.oneCell' = true) : ∀ c ∈ l.cells, c.oneCell' = true := fun c hc => by
  simp only [RL.cells, List.mem_cons, List.not_mem_nil, or_false] at hc
  rcases hc with rfl | rfl | rfl | rfl
  · rfl
  · rfl
  · exact h
  · rfl
theorem sem_rpush {LQ : LoopS} {K : Env → Ex → St → Prop} {ρ : Env} {b1 b2 b3 : Nat} {vs1 vs2 vs3 : List E} {t : Tree} {G : List Ob} {y : Nat} {R : RefM} {l : RL} (h : IsRef G y R) (hl : l.v.oneCell' = true) (hlen : R.all.length ≤ 1000000)
    (h1 : E.nams ρ lay0 vs1 = [.agg l.cells.toArray, encG G]) (h2 : E.nams (ρ.from_ b1 ((Env.ofL [tok G.length]).ans (encG (rlitG G l)))) lay0 vs2 = [R.av, tok G.length, encG (rlitG G l)])
    (h3 : E.nams ((ρ.from_ b1 ((Env.ofL [tok G.length]).ans (encG (rlitG G l)))).from_ b2 ((Env.ofL [tok (G.length + 1)]).ans (encG (rappG G R l)))) lay0 vs3 = [tokAt y 1, tok (G.length + 1), encG (rappG G R l)])
    (h4 : treeSem rc2S LQ K (((ρ.from_ b1 ((Env.ofL [tok G.length]).ans (encG (rlitG G l)))).from_ b2 ((Env.ofL [tok (G.length + 1)]).ans (encG (rappG G R l)))).from_ b3 ((Env.ofL []).ans (encG (rpushG G y R l)))) t) :
    treeSem rc2S LQ K ρ (.call 24 b1 vs1 (.call 23 b2 vs2 (.call 21 b3 vs3 t))) := by
  refine sem_step G [.agg l.cells.toArray] ((Env.ofL [tok G.length]).ans (encG (rlitG G l))) rfl h1 ⟨false, l.cells, rfl, by simp [Value.cells], fun v hv => ?_, rfl, rfl⟩ ?_
  · have : v = .agg l.cells.toArray := by simpa using hv
    subst this
    exact ⟨rfl, fun c hc => RL.one hl c (by simpa [Value.cells] using hc), fun cs e => (by cases e)⟩
  have hlit : (rlitG G l)[G.length]? = some (.row 4 1 l.cells) := by unfold rlitG; rw [List.getElem?_append_right (Nat.le_refl _), Nat.sub_self]; rfl
  refine sem_step (rlitG G l) [R.av, tok G.length] ((Env.ofL [tok (G.length + 1)]).ans (encG (rappG G R l))) rfl h2
    ⟨R.av, tok G.length, R.all.length, 1, rowR R.all, l.cells, rfl, dst_sl (.inr ⟨_, rfl, hlit⟩) rfl, by omega, by omega, .inr ⟨Nat.one_pos, Dst.append h.row, ?_, false, rfl⟩⟩ ?_
  · show tok (G.length + 1) = tok (rlitG G l).length
    rw [show (rlitG G l).length = G.length + 1 by simp [rlitG]]
  have ho := rapp_keep (l := l) h.row y _ h.ob fun _ _ e => by cases e
  refine sem_step (rappG G R l) [tokAt y 1, tok (G.length + 1)] ((Env.ofL []).ans (encG (rpushG G y R l))) rfl h3 ⟨y, 1, _, .ptr R.cells, R.cells, rfl, ho, rfl, rfl, rfl, fun u hu => ?_, fun cs e => (by cases e), by show 1 + 1 ≤ 7; omega, ?_⟩ h4
  · have : u = tok (G.length + 1) := by simpa [Value.cells, tok] using hu
    subst this
    rfl
  · have e : (tok (G.length + 1)).cells.toList = [tok (G.length + 1)] := rfl
    rw [e, overV_set _ _ _ (by show 1 < 7; omega)]
    rfl
/-- Send. -/
def sndL (G : List Ob) (f t : Int) (bs : List Int) : RL := ⟨f, t, cpV G bs, bs, true⟩
def sndR (G : List Ob) (R : RefM) (f t : Int) (bs : List Int) : RefM := { rpushR (cpG G bs) R (sndL G f t bs) with n0 := inc R.n0 }
def rsendN (G : List Ob) (R : RefM) (f t : Int) (bs : List Int) : RefM := if R.sendOk f t bs.length then sndR G R f t bs else R
def rsendG (G : List Ob) (y : Nat) (R : RefM) (f t : Int) (bs : List Int) : List Ob := if R.sendOk f t bs.length then (rpushG (cpG G bs) y R (sndL G f t bs)).set y (.ptr (sndR G R f t bs).cells) else G
def rsendRr (G : List Ob) (l : List Value) (e : Env) : Prop := ∃ y R f t v bs, l = [tokAt y 0, .int .i64 f, .int .i64 t, v] ∧ IsRef G y R ∧ R.all.length ≤ 1000000 ∧ Sx.Sl G v 1 bs.length (bs.map (Value.int .u8)) ∧ bs.length ≤ 1000000 ∧ e.b 0 = R.sendOk f t bs.length ∧ e.g gv = encG (rsendG G y R f t bs)
def rsendC : Con := mkCon 28 [] (.bool (.var 0)) 2
theorem cp_keeps' (G : List Ob) (bs : List Int) : Keeps G (cpG G bs) := (cp_at G bs).keep
theorem rsend_is {G : List Ob} {y : Nat} {R : RefM} (f t : Int) {bs : List Int} (h : IsRef G y R) (hb : bs.length ≤ 1000000) : IsRef (rsendG G y R f t bs) y (rsendN G R f t bs) := by
  unfold rsendG rsendN
  split
  · exact (rpush_is (h.keeps (cp_keeps' G bs)) ⟨(cp_at G bs).dst, hb⟩).counts rfl rfl rfl rfl
  · exact h
theorem rsend_fr {G : List Ob} {y : Nat} {R : RefM} (f t : Int) (bs : List Int) (h : IsRef G y R) : FrR y G (rsendG G y R f t bs) := by
  unfold rsendG
  split
  · exact ((FrR.keeps (cp_keeps' G bs) (cp_at G bs).len).trans (rpush_fr (h.keeps (cp_keeps' G bs)))).trans (FrR.set _)
  · exact FrR.refl
def treeRsend : Tree :=
 (.call 1 4200 [(.pla (.var 0) (.lit 0) 0), (.int .i64 (.var 1)), (.int .i64 (.var 2)), (.var 199)]
 (.split (.var 4200)
 (.call 14 8200 [(.hnd 3), (.var 5199)]
 (.split (.cmp .gtr (.var 8200) (.lit 400))
 (leafG (.bool (.lit false)) .nil 5199)
 (.call 2 13200 [(.pla (.var 0) (.lit 0) 0), (.var 5199)]
 (.split (.cmp .geq (.var 13200) (.lit 1000))
 (leafG (.bool (.lit false)) .nil 14199)
 (.call 7 20200 [(.pla (.var 0) (.lit 0) 1), (.var 14199)]
 (.call 3 24200 [(.hnd 3), (.var 14199)]
 (.call 24 26200 [(.agg ([(.int .i64 (.var 1)), (.int .i64 (.var 2)), (.hnd 24200), (.bool (.lit true))])), (.var 25199)]
 (.call 23 27200 [(.hnd 20200), (.hnd 26200), (.var 27199)]
 (.call 21 30200 [(.pla (.var 0) (.lit 0) 1), (.hnd 27200), (.var 28199)]
 (.call 6 36200 [(.pla (.var 0) (.lit 0) 3), (.var 31199)]
 (.call 18 41200 [(.pla (.var 0) (.lit 0) 3), (.int .i64 (.bin .add .i64 (.var 36200) (.lit 1))), (.var 31199)]
 (leafG (.bool (.lit true)) .nil 42199))))))))))))
 (leafG (.bool (.lit false)) .nil 5199)))
theorem rsend_holds : rsendC.holds Try.prog (conR rsendRr) := by
  refine con_of_runG (cs := rc2) (S := rc2S) (LT := []) (depth := 0) (fuel := 10) (nv := 200) (av := [ref, .int .i64 (.var 1), .int .i64 (.var 2), .hnd 3]) (T := treeRsend) rc2_holds (by kernel_rfl) (by kernel_rfl) (by kernel_rfl) ?_
  rintro G l e0 ⟨y, R, f, t, v, bs, rfl, hR, hlen, hv, hbl, he, hG⟩
  have ov := hv.one
  refine ⟨noLoops, (Env.ofL [.int .i64 y, .int .i64 f, .int .i64 t, v]).st (encG G), by show _ = [_, _, _, oneOf v]; rw [oneOf_eq ov]; rfl, rfl, ?_⟩
  have no : R.sendOk f t bs.length = false → ∀ (ρ : Env) (h : Tr (List E)) (g : Nat), ρ.g g = encG G → treeSem rc2S noLoops (KF [] (.bool (.var 0)) e0 2) ρ (leafG (.bool (.lit false)) h g) := fun hb ρ h g hg => by
    unfold rsendG at hG
    rw [if_neg (by rw [hb]; simp)] at hG
    exact sem_retG rfl (by show Value.bool false = Value.bool (e0.b 0); rw [he, hb]) trivial (by rw [hG, hg])
  refine sem_step G [tokAt y 0, .int .i64 f, .int .i64 t] ((Env.ofL [.bool (wayB R.nodes f t)]).ans (encG G)) rfl rfl ⟨y, R, f, t, rfl, hR, rfl, rfl⟩ ?_
  refine sem_split (fun h => ?_) (fun h => ?_)
  rotate_left
  · have h : wayB R.nodes f t = false := h
    exact no (by unfold RefM.sendOk; rw [h]; rfl) _ _ _ rfl
  have hw : wayB R.nodes f t = true := h
  refine sem_step G [v] (Env.ofL [.int .i64 bs.length]) rfl (by show [oneOf v, _] = _; rw [oneOf_eq ov]; rfl) ⟨v, 1, _, _, rfl, hv, rfl⟩ ?_
  refine sem_split (fun h => ?_) (fun h => ?_)
  · have h : ((bs.length : Nat) : Int) > 400 := of_decide_eq_true h
    exact no (by unfold RefM.sendOk; rw [hw, decide_eq_false (show ¬ bs.length ≤ 400 by omega)]; rfl) _ _ _ rfl
  have h4 : ¬ ((bs.length : Nat) : Int) > 400 := of_decide_eq_false h
  refine sem_step G [tokAt y 0] ((Env.ofL [.int .i64 R.waits]).ans (encG G)) rfl rfl ⟨y, R, rfl, hR, hlen, rfl, rfl⟩ ?_
  refine sem_split (fun h => ?_) (fun h => ?_)
  · have h : ((R.waits : Nat) : Int) ≥ 1000 := of_decide_eq_true h
    exact no (by unfold RefM.sendOk; rw [decide_eq_false (show ¬ R.waits < 1000 by omega), Bool.and_false]) _ _ _ rfl
  have hr : ¬ ((R.waits : Nat) : Int) ≥ 1000 := of_decide_eq_false h
  have hok : R.sendOk f t bs.length = true := by unfold RefM.sendOk; rw [hw, decide_eq_true (show bs.length ≤ 400 by omega), decide_eq_true (show R.waits < 1000 by omega)]; rfl
  unfold rsendG at hG
  rw [if_pos hok] at hG
  have o1 := hR.row.one
  have oc := cpV_one G bs
  have hR1 := hR.keeps (cp_keeps' G bs)
  have hR2 := rpush_is (l := sndL G f t bs) hR1 ⟨(cp_at G bs).dst, hbl⟩
  refine hR.step_av rfl rfl ?_
  refine sem_step G [v] ((Env.ofL [cpV G bs]).ans (encG (cpG G bs))) rfl (by show [oneOf v, _] = _; rw [oneOf_eq ov]; rfl) ⟨v, bs, rfl, hv, hbl, rfl, rfl⟩ ?_
  refine sem_rpush (l := sndL G f t bs) hR1 oc hlen ?_ ?_ rfl ?_
  · show [Value.agg #[.int .i64 f, .int .i64 t, oneOf (cpV G bs), .bool true], _] = _
    rw [oneOf_eq oc]
    rfl
  · show [oneOf R.av, _, _] = _
    rw [oneOf_eq o1]
    rfl
  refine sem_rinc (j := 3) (c := R.n0) (R' := sndR G R f t bs) hR2 rfl rfl rfl rfl rfl rfl ?_
  exact sem_retG rfl (by show Value.bool true = Value.bool (e0.b 0); rw [he, hok]) trivial (by rw [hG]; rfl)
/-- Double. -/
def dblL (G : List Ob) (R : RefM) (k : Int) : RL := { R.lookO k with v := cpV G (R.lookO k).bs }
def rdblR1 (G : List Ob) (R : RefM) (k : Int) : RefM := { rpushR (cpG G (R.lookO k).bs) R (dblL G R k) with n1 := inc R.n1 }
def rdblN (G : List Ob) (R : RefM) (k : Int) : RefM := if R.dblOk k then rdblR1 G R k else R
def rdblG (G : List Ob) (y : Nat) (R : RefM) (k : Int) : List Ob := if R.dblOk k then (rpushG (cpG G (R.lookO k).bs) y R (dblL G R k)).set y (.ptr (rdblR1 G R k).cells) else rlookG G R k
def rdblRr (G : List Ob) (l : List Value) (e : Env) : Prop := ∃ y R k, l = [tokAt y 0, .int .i64 k] ∧ IsRef G y R ∧ R.all.length ≤ 1000000 ∧ e.b 0 = R.dblOk k ∧ e.g gv = encG (rdblG G y R k)
def rdblC : Con := mkCon 31 [] (.bool (.var 0)) 2
theorem RefM.look_mem {R : RefM} {k : Int} (h : R.lookB k = true) : R.lookO k ∈ R.all := by
  unfold RefM.lookB at h
  rw [Bool.and_eq_true, decide_eq_true_eq] at h
  obtain ⟨p, hp, _, e⟩ := RefM.look_at h.1
  rw [e]
  exact List.getElem_mem _
theorem RefM.dbl_look {R : RefM} {k : Int} (h : R.dblOk k = true) : R.lookB k = true := by
  unfold RefM.dblOk at h
  rw [Bool.and_eq_true] at h
  exact h.1
theorem RefM.dlv_look {R : RefM} {k : Int} (h : R.dlvOk k = true) : R.lookB k = true := by
  unfold RefM.dlvOk at h
  rw [Bool.and_eq_true] at h
  exact h.1
theorem rlook_fr {G : List Ob} {R : RefM} (k : Int) : Keeps G (rlookG G R k) ∧ G.length ≤ (rlookG G R k).length := by
  unfold rlookG
  split
  · exact ⟨cp_keeps' G _, (cp_at G _).len⟩
  · exact ⟨fun _ _ h => h, Nat.le_refl _⟩
theorem rdbl_is {G : List Ob} {y : Nat} {R : RefM} (k : Int) (h : IsRef G y R) : IsRef (rdblG G y R k) y (rdblN G R k) := by
  unfold rdblG rdblN
  split
  · rename_i hb
    exact (rpush_is (l := dblL G R k) (h.keeps (cp_keeps' G _)) ⟨(cp_at G _).dst, (h.body _ (RefM.look_mem (RefM.dbl_look hb))).2⟩).counts rfl rfl rfl rfl
  · exact h.keeps (rlook_fr k).1
theorem rdbl_fr {G : List Ob} {y : Nat} {R : RefM} (k : Int) (h : IsRef G y R) : FrR y G (rdblG G y R k) := by
  unfold rdblG
  split
  · exact ((FrR.keeps (cp_keeps' G _) (cp_at G _).len).trans (rpush_fr (h.keeps (cp_keeps' G _)))).trans (FrR.set _)
  · exact FrR.keeps (rlook_fr k).1 (rlook_fr k).2
def treeRdbl : Tree :=
 (.call 0 3200 [(.pla (.var 0) (.lit 0) 0), (.int .i64 (.var 1)), (.var 199)]
 (.split (.var 3204)
 (.call 2 14200 [(.pla (.var 0) (.lit 0) 0), (.var 4199)]
 (.split (.cmp .geq (.var 14200) (.lit 1000))
 (leafG (.bool (.lit false)) .nil 15199)
 (.call 7 21200 [(.pla (.var 0) (.lit 0) 1), (.var 15199)]
 (.call 24 23200 [(.agg ([(.int .i64 (.var 3200)), (.int .i64 (.var 3201)), (.hnd 3202), (.bool (.var 3203))])), (.var 15199)]
 (.call 23 24200 [(.hnd 21200), (.hnd 23200), (.var 24199)]
 (.call 21 27200 [(.pla (.var 0) (.lit 0) 1), (.hnd 24200), (.var 25199)]
 (.call 6 33200 [(.pla (.var 0) (.lit 0) 4), (.var 28199)]
 (.call 18 38200 [(.pla (.var 0) (.lit 0) 4), (.int .i64 (.bin .add .i64 (.var 33200) (.lit 1))), (.var 28199)]
 (leafG (.bool (.lit true)) .nil 39199)))))))))
 (leafG (.bool (.lit false)) .nil 4199)))
theorem rlookL_one (G : List Ob) (R : RefM) (k : Int) : (rlookL G R k).v.oneCell' = true := by
  unfold rlookL
  split
  · exact cpV_one _ _
  · rfl
theorem rdbl_holds : rdblC.holds Try.prog (conR rdblRr) := by
  refine con_of_runG (cs := rc2) (S := rc2S) (LT := []) (depth := 0) (fuel := 10) (nv := 200) (av := [ref, .int .i64 (.var 1)]) (T := treeRdbl) rc2_holds (by kernel_rfl) (by kernel_rfl) (by kernel_rfl) ?_
  rintro G l e0 ⟨y, R, k, rfl, hR, hlen, he, hG⟩
  refine ⟨noLoops, (Env.ofL [.int .i64 y, .int .i64 k]).st (encG G), rfl, rfl, ?_⟩
  have hk := rlook_fr (G := G) (R := R) k
  have hR1 := hR.keeps hk.1
  have no : R.dblOk k = false → ∀ (ρ : Env) (h : Tr (List E)) (g : Nat), ρ.g g = encG (rlookG G R k) → treeSem rc2S noLoops (KF [] (.bool (.var 0)) e0 2) ρ (leafG (.bool (.lit false)) h g) := fun hb ρ h g hg => by
    unfold rdblG at hG
    rw [if_neg (by rw [hb]; simp)] at hG
    exact sem_retG rfl (by show Value.bool false = Value.bool (e0.b 0); rw [he, hb]) trivial (by rw [hG, hg])
  obtain ⟨ll, hll⟩ : ∃ l, l = rlookL G R k := ⟨_, rfl⟩
  have oll : ll.v.oneCell' = true := by rw [hll]; exact rlookL_one _ _ _
  refine sem_step G [tokAt y 0, .int .i64 k] ((Env.ofL (ll.cells ++ [.bool (R.lookB k)])).ans (encG (rlookG G R k))) rfl rfl ⟨y, R, k, rfl, hR, hlen, by rw [← hll]; rfl, by rw [← hll]; rfl, by rw [← hll]; rfl, by rw [← hll]; rfl, rfl, rfl⟩ ?_
  refine sem_split (fun h => ?_) (fun h => ?_)
  rotate_left
  · have h : R.lookB k = false := h
    exact no (by unfold RefM.dblOk; rw [h]; rfl) _ _ _ rfl
  have hb : R.lookB k = true := h
  refine sem_step (rlookG G R k) [tokAt y 0] ((Env.ofL [.int .i64 R.waits]).ans (encG (rlookG G R k))) rfl rfl ⟨y, R, rfl, hR1, hlen, rfl, rfl⟩ ?_
  refine sem_split (fun h => ?_) (fun h => ?_)
  · have h : ((R.waits : Nat) : Int) ≥ 1000 := of_decide_eq_true h
    exact no (by unfold RefM.dblOk; rw [decide_eq_false (show ¬ R.waits < 1000 by omega), Bool.and_false]) _ _ _ rfl
  have hr : ¬ ((R.waits : Nat) : Int) ≥ 1000 := of_decide_eq_false h
  have hok : R.dblOk k = true := by unfold RefM.dblOk; rw [hb, decide_eq_true (show R.waits < 1000 by omega)]; rfl
  have hgl : rlookG G R k = cpG G (R.lookO k).bs := by unfold rlookG; rw [if_pos hb]
  have hld : ll = dblL G R k := by rw [hll]; unfold rlookL; rw [if_pos hb]; rfl
  unfold rdblG at hG
  rw [if_pos hok] at hG
  rw [hgl] at hR1 ⊢
  rw [hld] at oll ⊢
  have o1 := hR.row.one
  have hbd := (hR.body _ (RefM.look_mem hb)).2
  have hR2 := rpush_is (l := dblL G R k) hR1 ⟨(cp_at G _).dst, hbd⟩
  refine hR1.step_av rfl rfl ?_
  refine sem_rpush (l := dblL G R k) hR1 oll hlen ?_ ?_ rfl ?_
  · show [Value.agg #[.int .i64 (dblL G R k).f, .int .i64 (dblL G R k).t, oneOf (dblL G R k).v, .bool (dblL G R k).w], _] = _
    rw [oneOf_eq oll]
    rfl
  · show [oneOf R.av, _, _] = _
    rw [oneOf_eq o1]
    rfl
  refine sem_rinc (j := 4) (c := R.n1) (R' := rdblR1 G R k) hR2 rfl rfl rfl rfl rfl rfl ?_
  exact sem_retG rfl (by show Value.bool true = Value.bool (e0.b 0); rw [he, hok]) trivial (by rw [hG]; rfl)
end Go.Proofs.Yteklnfajpignoaa
