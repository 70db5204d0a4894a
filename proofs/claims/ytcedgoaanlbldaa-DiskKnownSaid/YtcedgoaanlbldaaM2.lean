/- What is proved: contracts of LentBytes, KeptBytes, LentInts and KeptInts. No condition but those each law names. Printed by mk_M.py. -/
import Derived.Test.YtcedgoaanlbldaaM1
import Derived.Test.YtcedgoaanlbldaaSzN
namespace Go.Proofs.Ytcedgoaanlbldaa
open Sx
set_option maxRecDepth 100000

/-- Append of one more. -/
def nxG (Gj : List Ob) (v : Value) (xs : List Int) (c : Int) : List Ob := killV (litG Gj c) v ++ [.row 1 (xs.length + 1) ((xs ++ [c]).map (Value.int .u8))]
def nxV (Gj : List Ob) (c : Int) : Value := tok (litG Gj c).length
theorem sem_app {S : List ConS} {LQ : LoopS} {K : Env → Ex → St → Prop} {ρ : Env} {c1 c2 b1 b2 : Nat} {vs1 vs2 : List E} {t : Tree} {G Gj : List Ob} {v : Value} {xs : List Int} (c : Int) (h : CpAt G Gj v xs) (hl : xs.length ≤ 1000000) (s1 : S[c1]? = some (conR (bsR 1 1))) (s2 : S[c2]? = some (conR (appR 1 1)))
    (e1 : E.nams ρ lay0 vs1 = [.int .u8 c, encG Gj]) (e2 : ∀ g, E.nams (ρ.from_ b1 ((Env.ofL [tok Gj.length]).ans (encG g))) lay0 vs2 = [v, tok Gj.length, encG g])
    (h4 : ∀ d' g', CpAt G g' (tok d') (xs ++ [c]) → (∀ r, cpS Gj v xs (c :: r) = cpS g' (tok d') (xs ++ [c]) r) → ∀ g0, treeSem S LQ K ((ρ.from_ b1 ((Env.ofL [tok Gj.length]).ans (encG g0))).from_ b2 ((Env.ofL [tok d']).ans (encG g'))) t) : treeSem S LQ K ρ (.call c1 b1 vs1 (.call c2 b2 vs2 t)) := by
  refine sem_step Gj [.int .u8 c] _ s1 e1 (lit_bs _ _) ?_
  refine sem_step (litG Gj c) [v, tok Gj.length] ((Env.ofL [nxV Gj c]).ans (encG (nxG Gj v xs c))) s2 (e2 _) ⟨v, tok Gj.length, xs.length, 1, xs.map (Value.int .u8), [.int .u8 c], rfl, lit_sl Gj c, by omega, by omega, .inr ⟨Nat.one_pos, Dst.append h.dst, rfl, false, ?_⟩⟩ (h4 _ _ (h.next c) (fun _ => rfl) _)
  show encG (nxG Gj v xs c) = _
  unfold nxG
  rw [List.map_append]
  rfl
theorem cpS_app (r1 : List Int) : ∀ (G : List Ob) (v : Value) (xs r2 : List Int), cpS G v xs (r1 ++ r2) = cpS (cpS G v xs r1).1 (cpS G v xs r1).2 (xs ++ r1) r2 := by
  induction r1 with
  | nil => intro G v xs r2; rw [List.nil_append, List.append_nil]; rfl
  | cons c r ih =>
    intro G v xs r2
    show cpS _ _ _ (r ++ r2) = _
    rw [ih, List.append_assoc]
    rfl
/-- The marks. -/
def mk5 : List Int := [201, 208, 215, 222, 229]
def lenR' (G : List Ob) (l : List Value) (e : Env) : Prop := ∃ v bs, l = [v] ∧ Sl G v 1 bs.length (bs.map (Value.int .u8)) ∧ bs.length ≤ 900000 ∧ e.v 0 = cpV G (bs ++ mk5) ∧ e.g gv = encG (cpG G (bs ++ mk5))
def lentC : Con := mkCon 33 [] (.hnd 0) 2
def mp : List Con := [copyC, sameC, loadC 5 (.int .u8 (.var 0)), lenC 27, idxC 27, bsC 27 1, appC 27, storeC 5, cutC 27, dropC 27]
def mpS : List ConS := [conR copyR, conR sameR, conR (loadR (.int .u8 (.var 0))), conR lenR, conR (idxR 1), conR (bsR 1 1), conR (appR 1 1), conR (storeR 1), conR (cut2R 1), conR (dropR 1)]
theorem mp_holds : Cons Try.prog mp mpS :=
  ⟨copy_holds, same_holds, load_holds (by kernel_rfl) rfl, len_holds Try.underlying27, idx_holds Try.underlying27 (by kernel_rfl), bs_ok (b := 1) (z := .int .u8 0) Try.underlying27 (by kernel_rfl) rfl, app_ok (z := .int .u8 0) Try.underlying27 (by kernel_rfl) rfl, store_holds (by kernel_rfl), cut2_holds Try.underlying27 (by kernel_rfl), drop_holds Try.underlying27 (by kernel_rfl), trivial⟩
def treeLent : Tree :=
 (.call 0 2200 [(.hnd 0), (.var 199)]
 (.call 5 19200 [(.int .u8 (.lit 201)), (.var 3199)]
 (.call 6 20200 [(.hnd 2200), (.hnd 19200), (.var 20199)]
 (.call 5 39200 [(.int .u8 (.lit 208)), (.var 21199)]
 (.call 6 40200 [(.hnd 20200), (.hnd 39200), (.var 40199)]
 (.call 5 59200 [(.int .u8 (.lit 215)), (.var 41199)]
 (.call 6 60200 [(.hnd 40200), (.hnd 59200), (.var 60199)]
 (.call 5 79200 [(.int .u8 (.lit 222)), (.var 61199)]
 (.call 6 80200 [(.hnd 60200), (.hnd 79200), (.var 80199)]
 (.call 5 99200 [(.int .u8 (.lit 229)), (.var 81199)]
 (.call 6 100200 [(.hnd 80200), (.hnd 99200), (.var 100199)]
 (leafG (.hnd 100200) .nil 101199))))))))))))
theorem lent_holds : lentC.holds Try.prog (conR lenR') := by
  refine con_of_runG (cs := mp) (S := mpS) (LT := []) (depth := 1) (fuel := 10) (nv := 200) (av := [.hnd 0]) (T := treeLent) mp_holds (by kernel_rfl) (by kernel_rfl) (by kernel_rfl) ?_
  rintro G l e0 ⟨v, bs, rfl, hv, hbl, q0, hG⟩
  have o1 := hv.one
  refine ⟨noLoops, (Env.ofL [v]).st (encG G), by show [v] = [oneOf v]; rw [oneOf_eq o1], rfl, ?_⟩
  have h0 := cp_at G bs
  have q5 : cpS G (.slice none 0 0) [] (bs ++ mk5) = cpS (cpG G bs) (cpV G bs) bs mk5 := cpS_app bs G _ [] mk5
  refine sem_step G [v] ((Env.ofL [cpV G bs]).ans (encG (cpG G bs))) rfl (by show [oneOf v, _] = _; rw [oneOf_eq o1]; rfl) ⟨v, bs, rfl, hv, by omega, rfl, rfl⟩ ?_
  refine sem_app 201 h0 (by omega) rfl rfl rfl (fun _ => by show [oneOf (cpV G bs), _, _] = _; rw [oneOf_eq h0.dst.one]; rfl) fun d1 g1 h1 q1 _ => ?_
  refine sem_app 208 h1 (by simp; omega) rfl rfl rfl (fun _ => rfl) fun d2 g2 h2 q2 _ => ?_
  refine sem_app 215 h2 (by simp; omega) rfl rfl rfl (fun _ => rfl) fun d3 g3 h3 q3 _ => ?_
  refine sem_app 222 h3 (by simp; omega) rfl rfl rfl (fun _ => rfl) fun d4 g4 h4 q4 _ => ?_
  refine sem_app 229 h4 (by simp; omega) rfl rfl rfl (fun _ => rfl) fun d6 g6 h6 q6 _ => ?_
  have q7 : cpS G (.slice none 0 0) [] (bs ++ mk5) = (g6, tok d6) := by rw [q5]; unfold mk5; rw [q1, q2, q3, q4, q6]; rfl
  refine sem_retG rfl ?_ trivial ?_
  · show tok d6 = oneOf (e0.v 0)
    rw [q0]
    unfold cpV
    rw [q7]
    rfl
  · rw [hG]
    unfold cpG
    rw [q7]
    rfl
/-- Is what was lent as it was? -/
def kptG (G : List Ob) (d n : Nat) : List Ob := cpG (G ++ [.view d 1 0 n]) mk5 ++ [.view d 1 n 5]
def kptR (G : List Ob) (l : List Value) (e : Env) : Prop := ∃ d u bs, l = [tok d, u] ∧ G[d]? = some (.row 1 (bs ++ mk5).length ((bs ++ mk5).map (Value.int .u8))) ∧ Sl G u 1 bs.length (bs.map (Value.int .u8)) ∧ bs.length ≤ 900000 ∧ e.b 0 = true ∧ e.g gv = encG (kptG G d bs.length)
def kptC : Con := mkCon 39 [] (.bool (.var 0)) 2
theorem kpt_keeps (G : List Ob) (d n : Nat) : (∀ (k : Nat) o, G[k]? = some o → (kptG G d n)[k]? = some o) ∧ G.length ≤ (kptG G d n).length := by
  have h := cp_at (G ++ [.view d 1 0 n]) mk5
  have hl := h.len
  rw [List.length_append, List.length_singleton] at hl
  refine ⟨fun k o ho => ?_, ?_⟩
  · have hk := (List.getElem?_eq_some_iff.1 ho).1
    unfold kptG
    rw [List.getElem?_append_left (by omega)]
    exact h.keep k o (by rw [List.getElem?_append_left hk]; exact ho)
  · unfold kptG
    rw [List.length_append]
    omega
def treeKept : Tree :=
 (.call 3 2200 [(.hnd 0), (.var 199)]
 (.call 3 4200 [(.hnd 1), (.var 199)]
 (.split (.cmp .eql (.var 2200) (.bin .add .i64 (.var 4200) (.lit 5)))
 (.call 3 10200 [(.hnd 1), (.var 199)]
 (.call 8 11200 [(.hnd 0), (.int .i64 (.var 10200)), (.var 199)]
 (.call 1 13200 [(.hnd 11200), (.hnd 1), (.var 12199)]
 (.split (.var 13200)
 (.call 5 32200 [(.int .u8 (.lit 201)), (.var 14199)]
 (.call 6 33200 [(.lit (.slice none 0 0)), (.hnd 32200), (.var 33199)]
 (.call 5 52200 [(.int .u8 (.lit 208)), (.var 34199)]
 (.call 6 53200 [(.hnd 33200), (.hnd 52200), (.var 53199)]
 (.call 5 72200 [(.int .u8 (.lit 215)), (.var 54199)]
 (.call 6 73200 [(.hnd 53200), (.hnd 72200), (.var 73199)]
 (.call 5 92200 [(.int .u8 (.lit 222)), (.var 74199)]
 (.call 6 93200 [(.hnd 73200), (.hnd 92200), (.var 93199)]
 (.call 5 112200 [(.int .u8 (.lit 229)), (.var 94199)]
 (.call 6 113200 [(.hnd 93200), (.hnd 112200), (.var 113199)]
 (.call 3 122200 [(.hnd 1), (.var 114199)]
 (.call 9 123200 [(.hnd 0), (.int .i64 (.var 122200)), (.var 114199)]
 (.call 1 125200 [(.hnd 123200), (.hnd 113200), (.var 124199)]
 (leafG (.bool (.var 125200)) .nil 126199))))))))))))))
 (leafG (.bool (.lit false)) .nil 14199)))))
 (leafG (.bool (.lit false)) .nil 199))))
theorem kept_holds : kptC.holds Try.prog (conR kptR) := by
  refine con_of_runG (cs := mp) (S := mpS) (LT := []) (depth := 1) (fuel := 10) (nv := 200) (av := [.hnd 0, .hnd 1]) (T := treeKept) mp_holds (by kernel_rfl) (by kernel_rfl) (by kernel_rfl) ?_
  rintro G l e0 ⟨d, u, bs, rfl, hd, hu, hbl, q0, hG⟩
  have o2 := hu.one
  refine ⟨noLoops, (Env.ofL [tok d, u]).st (encG G), by show [_, _] = [_, oneOf u]; rw [oneOf_eq o2]; rfl, rfl, ?_⟩
  have hdl := (List.getElem?_eq_some_iff.1 hd).1
  have hall : (bs ++ mk5).length = bs.length + 5 := by rw [List.length_append]; rfl
  have hs0 : Sl G (tok d) 1 (bs ++ mk5).length ((bs ++ mk5).map (Value.int .u8)) := dst_sl (.inr ⟨d, rfl, hd⟩) (by rw [List.length_map, Nat.mul_one])
  obtain ⟨G1, hG1⟩ : ∃ g, g = G ++ [Ob.view d 1 0 bs.length] := ⟨_, rfl⟩
  have k1 : ∀ (n : Nat) o, G[n]? = some o → G1[n]? = some o := fun n o ho => by rw [hG1, List.getElem?_append_left (List.getElem?_eq_some_iff.1 ho).1]; exact ho
  have hv1 : G1[G.length]? = some (.view d 1 0 bs.length) := by rw [hG1, List.getElem?_append_right (Nat.le_refl _), Nat.sub_self]; rfl
  have ca : cellsAt G1 d = some ((bs ++ mk5).map (Value.int .u8)) := by unfold cellsAt; rw [k1 d _ hd]; rfl
  have hsv : Sl G1 (tok G.length) 1 bs.length (bs.map (Value.int .u8)) := .inr ⟨d, 0, _, ⟨_, rfl, .inr ⟨hv1, hdl⟩⟩, ca, by rw [List.length_map, hall]; omega, by rw [List.drop_zero, Nat.mul_one, ← List.map_take, List.take_left]⟩
  have hsu := sl_keep k1 hu
  have h0 := CpAt.start G1
  refine sem_step G [tok d] (Env.ofL [.int .i64 (bs ++ mk5).length]) rfl rfl ⟨tok d, 1, _, _, rfl, hs0, rfl⟩ ?_
  refine sem_step G [u] (Env.ofL [.int .i64 bs.length]) rfl (by show [oneOf u, _] = _; rw [oneOf_eq o2]; rfl) ⟨u, 1, _, _, rfl, hu, rfl⟩ ?_
  refine sem_split (fun _ => ?_) (fun h => ?_)
  · refine sem_step G [u] (Env.ofL [.int .i64 bs.length]) rfl (by show [oneOf u, _] = _; rw [oneOf_eq o2]; rfl) ⟨u, 1, _, _, rfl, hu, rfl⟩ ?_
    refine sem_step G [tok d, .int .i64 bs.length] ((Env.ofL [tok G.length]).ans (encG G1)) rfl rfl ⟨tok d, _, rfl, .inr ⟨d, _, _, rfl, .inl hd, by omega, by rw [hall]; omega, rfl, by rw [hG1, Int.toNat_natCast]; rfl⟩⟩ ?_
    refine sem_step G1 [tok G.length, u] ((Env.ofL [.bool true]).ans (encG G1)) rfl (by show [oneOf (tok G.length), oneOf u, _] = _; rw [oneOf_eq o2]; rfl) ⟨_, u, bs, bs, rfl, hsv, hsu, by omega, by simp [Env.ofL, Env.ans], rfl⟩ ?_
    refine sem_split (fun _ => ?_) (fun h => by cases h)
    refine sem_app 201 h0 (by simp) rfl rfl rfl (fun _ => rfl) fun d1 g1 h1 q1 _ => ?_
    refine sem_app 208 h1 (by simp) rfl rfl rfl (fun _ => rfl) fun d2 g2 h2 q2 _ => ?_
    refine sem_app 215 h2 (by simp) rfl rfl rfl (fun _ => rfl) fun d3 g3 h3 q3 _ => ?_
    refine sem_app 222 h3 (by simp) rfl rfl rfl (fun _ => rfl) fun d4 g4 h4 q4 _ => ?_
    refine sem_app 229 h4 (by simp) rfl rfl rfl (fun _ => rfl) fun v5 G2 hat q6 _ => ?_
    have q7 : cpS G1 (.slice none 0 0) [] mk5 = (G2, tok v5) := by unfold mk5; rw [q1, q2, q3, q4, q6]; rfl
    have hG2 : G2 = cpG G1 mk5 := by unfold cpG; rw [q7]
    have hkG : kptG G d bs.length = G2 ++ [.view d 1 bs.length 5] := by unfold kptG; rw [hG2, hG1]
    have hat : CpAt G1 G2 (tok v5) mk5 := hat
    have hd2 := hat.keep d _ (k1 d _ hd)
    have k3 : ∀ (n : Nat) o, G2[n]? = some o → (kptG G d bs.length)[n]? = some o := fun n o ho => by rw [hkG, List.getElem?_append_left (List.getElem?_eq_some_iff.1 ho).1]; exact ho
    have hd2l := (List.getElem?_eq_some_iff.1 hd2).1
    have hv2 : (kptG G d bs.length)[G2.length]? = some (.view d 1 bs.length 5) := by rw [hkG, List.getElem?_append_right (Nat.le_refl _), Nat.sub_self]; rfl
    have ca2 : cellsAt (kptG G d bs.length) d = some ((bs ++ mk5).map (Value.int .u8)) := by unfold cellsAt; rw [k3 d _ hd2]; rfl
    have hsv2 : Sl (kptG G d bs.length) (tok G2.length) 1 mk5.length (mk5.map (Value.int .u8)) := .inr ⟨d, bs.length, _, ⟨_, rfl, .inr ⟨hv2, hd2l⟩⟩, ca2, by rw [List.length_map, hall]; exact Nat.le_refl _, by
      rw [List.map_append, List.drop_left' (by rw [List.length_map]), List.take_of_length_le (by rw [List.length_map]; exact Nat.le_refl _)]⟩
    have hsm := sl_keep k3 (dst_sl hat.dst (by rw [List.length_map, Nat.mul_one]))
    refine sem_step G2 [u] (Env.ofL [.int .i64 bs.length]) rfl (by show [oneOf u, _] = _; rw [oneOf_eq o2]; rfl) ⟨u, 1, _, _, rfl, sl_keep hat.keep hsu, rfl⟩ ?_
    refine sem_step G2 [tok d, .int .i64 bs.length] ((Env.ofL [tok G2.length]).ans (encG (kptG G d bs.length))) rfl rfl ⟨d, _, _, _, rfl, .inl hd2, by omega, by rw [hall]; omega, Nat.one_pos, rfl, ?_⟩ ?_
    · rw [hkG, hall, Int.toNat_natCast, Nat.mul_one, Nat.add_sub_cancel_left]
      rfl
    refine sem_step (kptG G d bs.length) [tok G2.length, tok v5] ((Env.ofL [.bool true]).ans (encG (kptG G d bs.length))) rfl rfl ⟨_, _, mk5, mk5, rfl, hsv2, hsm, by decide, by simp [Env.ofL, Env.ans], rfl⟩ ?_
    exact sem_retG rfl (by show Value.bool true = Value.bool (e0.b 0); rw [q0]) trivial (by rw [hG]; rfl)
  · exact absurd h (by
      show ¬ (((bs ++ mk5).length : Int) == IntKind.i64.wrap ((bs.length : Int) + 5)) = false
      rw [hall, wrap_in (by omega) (by omega)]
      simp)
/-- Append of one more. -/
def nxGI (Gj : List Ob) (v : Value) (xs : List Int) (c : Int) : List Ob := killV (litGI Gj c) v ++ [.row 1 (xs.length + 1) ((xs ++ [c]).map (Value.int .i64))]
def nxVI (Gj : List Ob) (c : Int) : Value := tok (litGI Gj c).length
theorem sem_appI {S : List ConS} {LQ : LoopS} {K : Env → Ex → St → Prop} {ρ : Env} {c1 c2 b1 b2 : Nat} {vs1 vs2 : List E} {t : Tree} {G Gj : List Ob} {v : Value} {xs : List Int} (c : Int) (h : CpAtI G Gj v xs) (hl : xs.length ≤ 1000000) (s1 : S[c1]? = some (conR (bsR 1 1))) (s2 : S[c2]? = some (conR (appR 1 8)))
    (e1 : E.nams ρ lay0 vs1 = [.int .i64 c, encG Gj]) (e2 : ∀ g, E.nams (ρ.from_ b1 ((Env.ofL [tok Gj.length]).ans (encG g))) lay0 vs2 = [v, tok Gj.length, encG g])
    (h4 : ∀ d' g', CpAtI G g' (tok d') (xs ++ [c]) → (∀ r, cpSI Gj v xs (c :: r) = cpSI g' (tok d') (xs ++ [c]) r) → ∀ g0, treeSem S LQ K ((ρ.from_ b1 ((Env.ofL [tok Gj.length]).ans (encG g0))).from_ b2 ((Env.ofL [tok d']).ans (encG g'))) t) : treeSem S LQ K ρ (.call c1 b1 vs1 (.call c2 b2 vs2 t)) := by
  refine sem_step Gj [.int .i64 c] _ s1 e1 (lit_bsI _ _) ?_
  refine sem_step (litGI Gj c) [v, tok Gj.length] ((Env.ofL [nxVI Gj c]).ans (encG (nxGI Gj v xs c))) s2 (e2 _) ⟨v, tok Gj.length, xs.length, 1, xs.map (Value.int .i64), [.int .i64 c], rfl, lit_slI Gj c, by omega, by omega, .inr ⟨Nat.one_pos, Dst.append h.dst, rfl, false, ?_⟩⟩ (h4 _ _ (h.next c) (fun _ => rfl) _)
  show encG (nxGI Gj v xs c) = _
  unfold nxGI
  rw [List.map_append]
  rfl
theorem cpS_appI (r1 : List Int) : ∀ (G : List Ob) (v : Value) (xs r2 : List Int), cpSI G v xs (r1 ++ r2) = cpSI (cpSI G v xs r1).1 (cpSI G v xs r1).2 (xs ++ r1) r2 := by
  induction r1 with
  | nil => intro G v xs r2; rw [List.nil_append, List.append_nil]; rfl
  | cons c r ih =>
    intro G v xs r2
    show cpSI _ _ _ (r ++ r2) = _
    rw [ih, List.append_assoc]
    rfl
/-- The marks. -/
def mk5I : List Int := [7001, 7014, 7027, 7040, 7053]
def lenRI' (G : List Ob) (l : List Value) (e : Env) : Prop := ∃ v bs, l = [v] ∧ Sl G v 1 bs.length (bs.map (Value.int .i64)) ∧ bs.length ≤ 900000 ∧ e.v 0 = cpVI G (bs ++ mk5I) ∧ e.g gv = encG (cpGI G (bs ++ mk5I))
def lentCI : Con := mkCon 34 [] (.hnd 0) 2
def mpI : List Con := [copyCI, sameCI, loadC 3 (.int .i64 (.var 0)), lenC 23, idxC 23, bsC 23 1, appC 23, storeC 3, cutC 23, dropC 23]
def mpSI : List ConS := [conR copyRI, conR sameRI, conR (loadR (.int .i64 (.var 0))), conR lenR, conR (idxR 1), conR (bsR 1 1), conR (appR 1 8), conR (storeR 1), conR (cut2R 1), conR (dropR 1)]
theorem mp_holdsI : Cons Try.prog mpI mpSI :=
  ⟨copy_holdsI, same_holdsI, load_holds (by kernel_rfl) rfl, len_holds Try.underlying23, idx_holds Try.underlying23 (by kernel_rfl), bs_ok (b := 8) (z := .int .i64 0) Try.underlying23 (by kernel_rfl) rfl, app_ok (z := .int .i64 0) Try.underlying23 (by kernel_rfl) rfl, store_holds (by kernel_rfl), cut2_holds Try.underlying23 (by kernel_rfl), drop_holds Try.underlying23 (by kernel_rfl), trivial⟩
def treeLentI : Tree :=
 (.call 0 2200 [(.hnd 0), (.var 199)]
 (.call 5 18200 [(.int .i64 (.lit 7001)), (.var 3199)]
 (.call 6 19200 [(.hnd 2200), (.hnd 18200), (.var 19199)]
 (.call 5 37200 [(.int .i64 (.lit 7014)), (.var 20199)]
 (.call 6 38200 [(.hnd 19200), (.hnd 37200), (.var 38199)]
 (.call 5 56200 [(.int .i64 (.lit 7027)), (.var 39199)]
 (.call 6 57200 [(.hnd 38200), (.hnd 56200), (.var 57199)]
 (.call 5 75200 [(.int .i64 (.lit 7040)), (.var 58199)]
 (.call 6 76200 [(.hnd 57200), (.hnd 75200), (.var 76199)]
 (.call 5 94200 [(.int .i64 (.lit 7053)), (.var 77199)]
 (.call 6 95200 [(.hnd 76200), (.hnd 94200), (.var 95199)]
 (leafG (.hnd 95200) .nil 96199))))))))))))
theorem lent_holdsI : lentCI.holds Try.prog (conR lenRI') := by
  refine con_of_runG (cs := mpI) (S := mpSI) (LT := []) (depth := 1) (fuel := 10) (nv := 200) (av := [.hnd 0]) (T := treeLentI) mp_holdsI (by kernel_rfl) (by kernel_rfl) (by kernel_rfl) ?_
  rintro G l e0 ⟨v, bs, rfl, hv, hbl, q0, hG⟩
  have o1 := hv.one
  refine ⟨noLoops, (Env.ofL [v]).st (encG G), by show [v] = [oneOf v]; rw [oneOf_eq o1], rfl, ?_⟩
  have h0 := cp_atI G bs
  have q5 : cpSI G (.slice none 0 0) [] (bs ++ mk5I) = cpSI (cpGI G bs) (cpVI G bs) bs mk5I := cpS_appI bs G _ [] mk5I
  refine sem_step G [v] ((Env.ofL [cpVI G bs]).ans (encG (cpGI G bs))) rfl (by show [oneOf v, _] = _; rw [oneOf_eq o1]; rfl) ⟨v, bs, rfl, hv, by omega, rfl, rfl⟩ ?_
  refine sem_appI 7001 h0 (by omega) rfl rfl rfl (fun _ => by show [oneOf (cpVI G bs), _, _] = _; rw [oneOf_eq h0.dst.one]; rfl) fun d1 g1 h1 q1 _ => ?_
  refine sem_appI 7014 h1 (by simp; omega) rfl rfl rfl (fun _ => rfl) fun d2 g2 h2 q2 _ => ?_
  refine sem_appI 7027 h2 (by simp; omega) rfl rfl rfl (fun _ => rfl) fun d3 g3 h3 q3 _ => ?_
  refine sem_appI 7040 h3 (by simp; omega) rfl rfl rfl (fun _ => rfl) fun d4 g4 h4 q4 _ => ?_
  refine sem_appI 7053 h4 (by simp; omega) rfl rfl rfl (fun _ => rfl) fun d6 g6 h6 q6 _ => ?_
  have q7 : cpSI G (.slice none 0 0) [] (bs ++ mk5I) = (g6, tok d6) := by rw [q5]; unfold mk5I; rw [q1, q2, q3, q4, q6]; rfl
  refine sem_retG rfl ?_ trivial ?_
  · show tok d6 = oneOf (e0.v 0)
    rw [q0]
    unfold cpVI
    rw [q7]
    rfl
  · rw [hG]
    unfold cpGI
    rw [q7]
    rfl
/-- Is what was lent as it was? -/
def kptGI (G : List Ob) (d n : Nat) : List Ob := cpGI (G ++ [.view d 1 0 n]) mk5I ++ [.view d 1 n 5]
def kptRI (G : List Ob) (l : List Value) (e : Env) : Prop := ∃ d u bs, l = [tok d, u] ∧ G[d]? = some (.row 1 (bs ++ mk5I).length ((bs ++ mk5I).map (Value.int .i64))) ∧ Sl G u 1 bs.length (bs.map (Value.int .i64)) ∧ bs.length ≤ 900000 ∧ e.b 0 = true ∧ e.g gv = encG (kptGI G d bs.length)
def kptCI : Con := mkCon 40 [] (.bool (.var 0)) 2
theorem kpt_keepsI (G : List Ob) (d n : Nat) : (∀ (k : Nat) o, G[k]? = some o → (kptGI G d n)[k]? = some o) ∧ G.length ≤ (kptGI G d n).length := by
  have h := cp_atI (G ++ [.view d 1 0 n]) mk5I
  have hl := h.len
  rw [List.length_append, List.length_singleton] at hl
  refine ⟨fun k o ho => ?_, ?_⟩
  · have hk := (List.getElem?_eq_some_iff.1 ho).1
    unfold kptGI
    rw [List.getElem?_append_left (by omega)]
    exact h.keep k o (by rw [List.getElem?_append_left hk]; exact ho)
  · unfold kptGI
    rw [List.length_append]
    omega
def treeKeptI : Tree :=
 (.call 3 2200 [(.hnd 0), (.var 199)]
 (.call 3 4200 [(.hnd 1), (.var 199)]
 (.split (.cmp .eql (.var 2200) (.bin .add .i64 (.var 4200) (.lit 5)))
 (.call 3 10200 [(.hnd 1), (.var 199)]
 (.call 8 11200 [(.hnd 0), (.int .i64 (.var 10200)), (.var 199)]
 (.call 1 13200 [(.hnd 11200), (.hnd 1), (.var 12199)]
 (.split (.var 13200)
 (.call 5 31200 [(.int .i64 (.lit 7001)), (.var 14199)]
 (.call 6 32200 [(.lit (.slice none 0 0)), (.hnd 31200), (.var 32199)]
 (.call 5 50200 [(.int .i64 (.lit 7014)), (.var 33199)]
 (.call 6 51200 [(.hnd 32200), (.hnd 50200), (.var 51199)]
 (.call 5 69200 [(.int .i64 (.lit 7027)), (.var 52199)]
 (.call 6 70200 [(.hnd 51200), (.hnd 69200), (.var 70199)]
 (.call 5 88200 [(.int .i64 (.lit 7040)), (.var 71199)]
 (.call 6 89200 [(.hnd 70200), (.hnd 88200), (.var 89199)]
 (.call 5 107200 [(.int .i64 (.lit 7053)), (.var 90199)]
 (.call 6 108200 [(.hnd 89200), (.hnd 107200), (.var 108199)]
 (.call 3 117200 [(.hnd 1), (.var 109199)]
 (.call 9 118200 [(.hnd 0), (.int .i64 (.var 117200)), (.var 109199)]
 (.call 1 120200 [(.hnd 118200), (.hnd 108200), (.var 119199)]
 (leafG (.bool (.var 120200)) .nil 121199))))))))))))))
 (leafG (.bool (.lit false)) .nil 14199)))))
 (leafG (.bool (.lit false)) .nil 199))))
theorem kept_holdsI : kptCI.holds Try.prog (conR kptRI) := by
  refine con_of_runG (cs := mpI) (S := mpSI) (LT := []) (depth := 1) (fuel := 10) (nv := 200) (av := [.hnd 0, .hnd 1]) (T := treeKeptI) mp_holdsI (by kernel_rfl) (by kernel_rfl) (by kernel_rfl) ?_
  rintro G l e0 ⟨d, u, bs, rfl, hd, hu, hbl, q0, hG⟩
  have o2 := hu.one
  refine ⟨noLoops, (Env.ofL [tok d, u]).st (encG G), by show [_, _] = [_, oneOf u]; rw [oneOf_eq o2]; rfl, rfl, ?_⟩
  have hdl := (List.getElem?_eq_some_iff.1 hd).1
  have hall : (bs ++ mk5I).length = bs.length + 5 := by rw [List.length_append]; rfl
  have hs0 : Sl G (tok d) 1 (bs ++ mk5I).length ((bs ++ mk5I).map (Value.int .i64)) := dst_sl (.inr ⟨d, rfl, hd⟩) (by rw [List.length_map, Nat.mul_one])
  obtain ⟨G1, hG1⟩ : ∃ g, g = G ++ [Ob.view d 1 0 bs.length] := ⟨_, rfl⟩
  have k1 : ∀ (n : Nat) o, G[n]? = some o → G1[n]? = some o := fun n o ho => by rw [hG1, List.getElem?_append_left (List.getElem?_eq_some_iff.1 ho).1]; exact ho
  have hv1 : G1[G.length]? = some (.view d 1 0 bs.length) := by rw [hG1, List.getElem?_append_right (Nat.le_refl _), Nat.sub_self]; rfl
  have ca : cellsAt G1 d = some ((bs ++ mk5I).map (Value.int .i64)) := by unfold cellsAt; rw [k1 d _ hd]; rfl
  have hsv : Sl G1 (tok G.length) 1 bs.length (bs.map (Value.int .i64)) := .inr ⟨d, 0, _, ⟨_, rfl, .inr ⟨hv1, hdl⟩⟩, ca, by rw [List.length_map, hall]; omega, by rw [List.drop_zero, Nat.mul_one, ← List.map_take, List.take_left]⟩
  have hsu := sl_keep k1 hu
  have h0 := CpAtI.start G1
  refine sem_step G [tok d] (Env.ofL [.int .i64 (bs ++ mk5I).length]) rfl rfl ⟨tok d, 1, _, _, rfl, hs0, rfl⟩ ?_
  refine sem_step G [u] (Env.ofL [.int .i64 bs.length]) rfl (by show [oneOf u, _] = _; rw [oneOf_eq o2]; rfl) ⟨u, 1, _, _, rfl, hu, rfl⟩ ?_
  refine sem_split (fun _ => ?_) (fun h => ?_)
  · refine sem_step G [u] (Env.ofL [.int .i64 bs.length]) rfl (by show [oneOf u, _] = _; rw [oneOf_eq o2]; rfl) ⟨u, 1, _, _, rfl, hu, rfl⟩ ?_
    refine sem_step G [tok d, .int .i64 bs.length] ((Env.ofL [tok G.length]).ans (encG G1)) rfl rfl ⟨tok d, _, rfl, .inr ⟨d, _, _, rfl, .inl hd, by omega, by rw [hall]; omega, rfl, by rw [hG1, Int.toNat_natCast]; rfl⟩⟩ ?_
    refine sem_step G1 [tok G.length, u] ((Env.ofL [.bool true]).ans (encG G1)) rfl (by show [oneOf (tok G.length), oneOf u, _] = _; rw [oneOf_eq o2]; rfl) ⟨_, u, bs, bs, rfl, hsv, hsu, by omega, by simp [Env.ofL, Env.ans], rfl⟩ ?_
    refine sem_split (fun _ => ?_) (fun h => by cases h)
    refine sem_appI 7001 h0 (by simp) rfl rfl rfl (fun _ => rfl) fun d1 g1 h1 q1 _ => ?_
    refine sem_appI 7014 h1 (by simp) rfl rfl rfl (fun _ => rfl) fun d2 g2 h2 q2 _ => ?_
    refine sem_appI 7027 h2 (by simp) rfl rfl rfl (fun _ => rfl) fun d3 g3 h3 q3 _ => ?_
    refine sem_appI 7040 h3 (by simp) rfl rfl rfl (fun _ => rfl) fun d4 g4 h4 q4 _ => ?_
    refine sem_appI 7053 h4 (by simp) rfl rfl rfl (fun _ => rfl) fun v5 G2 hat q6 _ => ?_
    have q7 : cpSI G1 (.slice none 0 0) [] mk5I = (G2, tok v5) := by unfold mk5I; rw [q1, q2, q3, q4, q6]; rfl
    have hG2 : G2 = cpGI G1 mk5I := by unfold cpGI; rw [q7]
    have hkG : kptGI G d bs.length = G2 ++ [.view d 1 bs.length 5] := by unfold kptGI; rw [hG2, hG1]
    have hat : CpAtI G1 G2 (tok v5) mk5I := hat
    have hd2 := hat.keep d _ (k1 d _ hd)
    have k3 : ∀ (n : Nat) o, G2[n]? = some o → (kptGI G d bs.length)[n]? = some o := fun n o ho => by rw [hkG, List.getElem?_append_left (List.getElem?_eq_some_iff.1 ho).1]; exact ho
    have hd2l := (List.getElem?_eq_some_iff.1 hd2).1
    have hv2 : (kptGI G d bs.length)[G2.length]? = some (.view d 1 bs.length 5) := by rw [hkG, List.getElem?_append_right (Nat.le_refl _), Nat.sub_self]; rfl
    have ca2 : cellsAt (kptGI G d bs.length) d = some ((bs ++ mk5I).map (Value.int .i64)) := by unfold cellsAt; rw [k3 d _ hd2]; rfl
    have hsv2 : Sl (kptGI G d bs.length) (tok G2.length) 1 mk5I.length (mk5I.map (Value.int .i64)) := .inr ⟨d, bs.length, _, ⟨_, rfl, .inr ⟨hv2, hd2l⟩⟩, ca2, by rw [List.length_map, hall]; exact Nat.le_refl _, by
      rw [List.map_append, List.drop_left' (by rw [List.length_map]), List.take_of_length_le (by rw [List.length_map]; exact Nat.le_refl _)]⟩
    have hsm := sl_keep k3 (dst_sl hat.dst (by rw [List.length_map, Nat.mul_one]))
    refine sem_step G2 [u] (Env.ofL [.int .i64 bs.length]) rfl (by show [oneOf u, _] = _; rw [oneOf_eq o2]; rfl) ⟨u, 1, _, _, rfl, sl_keep hat.keep hsu, rfl⟩ ?_
    refine sem_step G2 [tok d, .int .i64 bs.length] ((Env.ofL [tok G2.length]).ans (encG (kptGI G d bs.length))) rfl rfl ⟨d, _, _, _, rfl, .inl hd2, by omega, by rw [hall]; omega, Nat.one_pos, rfl, ?_⟩ ?_
    · rw [hkG, hall, Int.toNat_natCast, Nat.mul_one, Nat.add_sub_cancel_left]
      rfl
    refine sem_step (kptGI G d bs.length) [tok G2.length, tok v5] ((Env.ofL [.bool true]).ans (encG (kptGI G d bs.length))) rfl rfl ⟨_, _, mk5I, mk5I, rfl, hsv2, hsm, by decide, by simp [Env.ofL, Env.ans], rfl⟩ ?_
    exact sem_retG rfl (by show Value.bool true = Value.bool (e0.b 0); rw [q0]) trivial (by rw [hG]; rfl)
  · exact absurd h (by
      show ¬ (((bs ++ mk5I).length : Int) == IntKind.i64.wrap ((bs.length : Int) + 5)) = false
      rw [hall, wrap_in (by omega) (by omega)]
      simp)
end Go.Proofs.Ytcedgoaanlbldaa
