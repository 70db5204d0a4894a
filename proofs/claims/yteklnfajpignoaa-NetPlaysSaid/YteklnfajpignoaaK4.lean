/- What is proved: the contract of did. No condition. -/
import Derived.Test.YteklnfajpignoaaK3
namespace Go.Proofs.Yteklnfajpignoaa
open Sx hiding Sl
set_option maxRecDepth 100000

/-- What an act does. -/
structure DidO where
  N : NetM
  G : List Ob
  i : Lt
  ib : Bool
  o : Lt
  ob : Bool
def zL : Lt := ⟨0, 0, .slice none 0 0, []⟩
def AD.lt (x : AD) : Lt := ⟨x.a, x.b, x.v, x.bs⟩
def AD.what (x : AD) : Int := pickI x.k 7
noncomputable def didO (G : List Ob) (n : Nat) (N : NetM) (x : AD) : DidO :=
  if x.what = 0 then ⟨sendN G N x.lt, cpG (sendG G n N x.lt) x.bs, ⟨x.a, x.b, cpV (sendG G n N x.lt) x.bs, x.bs⟩, sendOk N x.lt, zL, false⟩
  else if x.what = 2 then ⟨dlvN G n N x.a, dlvG G n N x.a, zL, false, dlvL G N x.a, dlvOk N x.a⟩
  else if x.what = 3 then ⟨dblN (lookG G N x.a) N x.a, dblG (lookG G N x.a) n N x.a, lookL G N x.a, dblOk N x.a, zL, false⟩
  else if x.what = 4 then ⟨losN G n N x.a, losG G n N x.a, zL, false, zL, false⟩
  else if x.what = 5 then ⟨cutN N x.a x.b true, cutG G N x.a x.b true, zL, false, zL, false⟩
  else if x.what = 6 then ⟨cutN N x.a x.b false, cutG G N x.a x.b false, zL, false, zL, false⟩
  else ⟨N, G, zL, false, zL, false⟩
def Keeps (G G' : List Ob) : Prop := ∀ (n : Nat) o, G[n]? = some o → G'[n]? = some o
theorem Step.of_keeps {G G' : List Ob} {x : Nat} {N : NetM} (h : IsNet G x N) (hk : Keeps G G') (hl : G.length ≤ G'.length) : Step x N G N G' := by
  refine ⟨⟨hk _ _ h.ob, ?_, fun l hl => ⟨(h.body l hl).1.keep fun n s le c hn => hk n _ hn, (h.body l hl).2⟩, hk _ _ h.map, h.keys, h.len⟩, ⟨hl, fun n o ho _ _ _ => hk n o ho⟩, .inl rfl, rfl⟩
  exact h.row.imp id fun ⟨d, e, hd⟩ => ⟨d, e, hk _ _ hd⟩
theorem Step.ro {G G' : List Ob} {x : Nat} {N N' : NetM} (hs : Step x N G N' G') (hN : IsNet G x N) {d s n : Nat} {xs : List Value} (hd : G[d]? = some (.ro s n xs)) : G'[d]? = some (.ro s n xs) :=
  hs.fr.2 d _ hd (fun e => by subst e; rw [hN.ob] at hd; cases hd) (fun e => by subst e; rw [hN.map] at hd; cases hd) (hN.ne hd fun _ _ _ e => by cases e)
theorem Step.body {G G' : List Ob} {x : Nat} {N N' : NetM} (hs : Step x N G N' G') (hN : IsNet G x N) {v : Value} {bs : List Int} (hb : Body G v bs) : Body G' v bs := hb.keep fun _ _ _ _ h => hs.ro hN h
theorem cp_keeps (G : List Ob) (bs : List Int) : Keeps G (cpG G bs) := (cp_at G bs).keep
theorem did_step {G : List Ob} {n : Nat} {N : NetM} {x : AD} (h : IsNet G n N) (hb : Body G x.v x.bs) : Step n N G (didO G n N x).N (didO G n N x).G := by
  unfold didO
  split
  · have h1 : Step n N G (sendN G N x.lt) (sendG G n N x.lt) := Step.send h hb.sl
    exact h1.trans (Step.of_keeps h1.is_ (cp_keeps _ _) (cp_at _ _).len)
  split
  · exact Step.dlv h _
  split
  · exact (Step.look h _).trans (Step.dbl (Step.look h _).is_ _)
  split
  · exact Step.los h _
  split
  · exact Step.cut h _ _ _
  split
  · exact Step.cut h _ _ _
  exact Step.refl h
def LDst (G : List Ob) (l : Lt) : Prop := Dst G l.v 1 l.bs.length (l.bs.map (Value.int .u8))
theorem zL_dst (G : List Ob) : LDst G zL := .inl ⟨rfl, rfl, rfl⟩
theorem did_in {G : List Ob} {n : Nat} {N : NetM} {x : AD} (h : IsNet G n N) : LDst (didO G n N x).G (didO G n N x).i := by
  unfold didO
  split
  · exact (cp_at _ _).dst
  split
  · exact zL_dst _
  split
  · exact (Step.dbl (Step.look h _).is_ _).dst (Step.look h _).is_ (look_dst h _)
  repeat' split
  all_goals exact zL_dst _
theorem did_out {G : List Ob} {n : Nat} {N : NetM} {x : AD} (h : IsNet G n N) : LDst (didO G n N x).G (didO G n N x).o := by
  unfold didO
  split
  · exact zL_dst _
  split
  · exact dlv_dst h _
  repeat' split
  all_goals exact zL_dst _
def didR (G : List Ob) (l : List Value) (e : Env) : Prop := ∃ n N x, l = [tokAt n 0, .agg (AD.cells x).toArray] ∧ IsNet G n N ∧ Body G x.v x.bs ∧ x.bs.length ≤ 1000000 ∧
  e.i 0 = (didO G n N x).i.f ∧ e.i 1 = (didO G n N x).i.t ∧ e.v 2 = (didO G n N x).i.v ∧ e.b 3 = (didO G n N x).ib ∧ e.i 4 = (didO G n N x).o.f ∧ e.i 5 = (didO G n N x).o.t ∧ e.v 6 = (didO G n N x).o.v ∧ e.b 7 = (didO G n N x).ob ∧ e.g gv = encG (didO G n N x).G
def didE : List E := [.agg (letE 0), .bool (.var 3), .agg (letE 4), .bool (.var 7)]
def didC : Con := mkCon 18 [] (.tup didE) 2
def dp : List Con := [pickC, copyC, sendC, dlvC, lookC, dblC, losC, cutC]
def dpS : List ConS := [pickS, conR copyR, conR sendR, conR dlvR, conR lookR, conR dblR, conR losR, conR cutR]
theorem dp_holds : Cons Try.prog dp dpS := ⟨pick_holds, copy_holds, send_holds, dlv_holds, look_holds, dbl_holds, los_holds, cut_holds, trivial⟩
def actE (n : Nat) : List E := [.int .i64 (.var n), .int .i64 (.var (n + 1)), .int .i64 (.var (n + 2)), .hnd (n + 3)]
def treeDid : Tree :=
 (.call 0 7200 [(.int .i64 (.var 1)), (.int .i64 (.lit 7))]
 (.split (.cmp .eql (.var 7200) (.lit 0))
 (.call 2 17200 [(.hnd 0), (.int .i64 (.var 2)), (.int .i64 (.var 3)), (.hnd 4), (.var 199)]
 (.call 1 25200 [(.hnd 4), (.var 18199)]
 (leafG (.tup ([(.agg ([(.int .i64 (.var 2)), (.int .i64 (.var 3)), (.hnd 25200)])), (.bool (.var 17200)), (.agg ([(.int .i64 (.lit 0)), (.int .i64 (.lit 0)), (.lit (.slice none 0 0))])), (.bool (.lit false))])) .nil 26199)))
 (.split (.cmp .eql (.var 7200) (.lit 2))
 (.call 3 15200 [(.hnd 0), (.int .i64 (.var 2)), (.var 199)]
 (leafG (.tup ([(.agg ([(.int .i64 (.lit 0)), (.int .i64 (.lit 0)), (.lit (.slice none 0 0))])), (.bool (.lit false)), (.agg ([(.int .i64 (.var 15200)), (.int .i64 (.var 15201)), (.hnd 15202)])), (.bool (.var 15203))])) .nil 16199))
 (.split (.cmp .eql (.var 7200) (.lit 3))
 (.call 4 17200 [(.hnd 0), (.int .i64 (.var 2)), (.var 199)]
 (.call 5 28200 [(.hnd 0), (.int .i64 (.var 2)), (.var 18199)]
 (leafG (.tup ([(.agg ([(.int .i64 (.var 17200)), (.int .i64 (.var 17201)), (.hnd 17202)])), (.bool (.var 28200)), (.agg ([(.int .i64 (.lit 0)), (.int .i64 (.lit 0)), (.lit (.slice none 0 0))])), (.bool (.lit false))])) .nil 29199)))
 (.split (.cmp .eql (.var 7200) (.lit 4))
 (.call 6 19200 [(.hnd 0), (.int .i64 (.var 2)), (.var 199)]
 (leafG (.tup ([(.agg ([(.int .i64 (.lit 0)), (.int .i64 (.lit 0)), (.lit (.slice none 0 0))])), (.bool (.lit false)), (.agg ([(.int .i64 (.lit 0)), (.int .i64 (.lit 0)), (.lit (.slice none 0 0))])), (.bool (.lit false))])) .nil 20199))
 (.split (.cmp .eql (.var 7200) (.lit 5))
 (.call 7 23200 [(.hnd 0), (.int .i64 (.var 2)), (.int .i64 (.var 3)), (.bool (.lit true)), (.var 199)]
 (leafG (.tup ([(.agg ([(.int .i64 (.lit 0)), (.int .i64 (.lit 0)), (.lit (.slice none 0 0))])), (.bool (.lit false)), (.agg ([(.int .i64 (.lit 0)), (.int .i64 (.lit 0)), (.lit (.slice none 0 0))])), (.bool (.lit false))])) .nil 24199))
 (.split (.cmp .eql (.var 7200) (.lit 6))
 (.call 7 25200 [(.hnd 0), (.int .i64 (.var 2)), (.int .i64 (.var 3)), (.bool (.lit false)), (.var 199)]
 (leafG (.tup ([(.agg ([(.int .i64 (.lit 0)), (.int .i64 (.lit 0)), (.lit (.slice none 0 0))])), (.bool (.lit false)), (.agg ([(.int .i64 (.lit 0)), (.int .i64 (.lit 0)), (.lit (.slice none 0 0))])), (.bool (.lit false))])) .nil 26199))
 (leafG (.tup ([(.agg ([(.int .i64 (.lit 0)), (.int .i64 (.lit 0)), (.lit (.slice none 0 0))])), (.bool (.lit false)), (.agg ([(.int .i64 (.lit 0)), (.int .i64 (.lit 0)), (.lit (.slice none 0 0))])), (.bool (.lit false))])) .nil 199))))))))
theorem did_holds : didC.holds Try.prog (conR didR) := by
  refine con_of_runG (cs := dp) (S := dpS) (LT := []) (depth := 0) (fuel := 10) (nv := 200) (av := [.hnd 0, .agg (actE 1)]) (T := treeDid) dp_holds (by kernel_rfl) (by kernel_rfl) (by kernel_rfl) ?_
  rintro G l e0 ⟨n, N, x, rfl, hN, hb, hbl, q0, q1, q2, q3, q4, q5, q6, q7, hG⟩
  have o1 := hb.one
  refine ⟨noLoops, (Env.ofL [tokAt n 0, .int .i64 x.k, .int .i64 x.a, .int .i64 x.b, x.v]).st (encG G), ?_, rfl, ?_⟩
  · show [tokAt n 0, .agg (AD.cells x).toArray] = [tokAt n 0, Value.agg #[.int .i64 x.k, .int .i64 x.a, .int .i64 x.b, oneOf x.v]]
    rw [oneOf_eq o1]
    rfl
  refine sem_call pickS (Env.ofL [.int .i64 x.what]) rfl ⟨x.k, 7, rfl, rfl⟩ ?_
  have ret : ∀ (ρ : Env) (E' : List E) (h : Tr (List E)) (g : Nat) (D : DidO), didO G n N x = D → (E.tup E').noPtr = true → (E.tup E').nam ρ lay0 = Value.tuple #[.agg #[.int .i64 D.i.f, .int .i64 D.i.t, oneOf D.i.v], .bool D.ib, .agg #[.int .i64 D.o.f, .int .i64 D.o.t, oneOf D.o.v], .bool D.ob] → ρ.g g = encG D.G →
      treeSem dpS noLoops (KF [] (.tup didE) e0 2) ρ (leafG (.tup E') h g) := fun ρ E' h g D hD hp hv hg => by
    refine sem_retG hp ?_ trivial (by rw [hG, hD, hg])
    rw [hv]
    show _ = Value.tuple #[.agg #[.int .i64 (e0.i 0), .int .i64 (e0.i 1), oneOf (e0.v 2)], .bool (e0.b 3), .agg #[.int .i64 (e0.i 4), .int .i64 (e0.i 5), oneOf (e0.v 6)], .bool (e0.b 7)]
    rw [q0, q1, q2, q3, q4, q5, q6, q7, hD]
  refine sem_split (fun h => ?_) (fun h => ?_)
  · have h0 : x.what = 0 := by simpa using (show (x.what == 0) = true from h)
    have hs : Step n N G (sendN G N x.lt) (sendG G n N x.lt) := Step.send hN hb.sl
    refine sem_step G [tokAt n 0, .int .i64 x.a, .int .i64 x.b, x.v] ((Env.ofL [.bool (sendOk N x.lt)]).ans (encG (sendG G n N x.lt))) rfl (by show [tokAt n 0, _, _, oneOf x.v, _] = _; rw [oneOf_eq o1]; rfl) ⟨n, N, x.lt, rfl, hN, hb.sl, rfl, rfl⟩ ?_
    refine sem_step (sendG G n N x.lt) [x.v] ((Env.ofL [cpV (sendG G n N x.lt) x.bs]).ans (encG (cpG (sendG G n N x.lt) x.bs))) rfl (by show [oneOf x.v, _] = _; rw [oneOf_eq o1]; rfl) ⟨x.v, x.bs, rfl, (hs.body hN hb).sl, hbl, rfl, rfl⟩ ?_
    exact ret _ _ _ _ _ (by unfold didO; rw [if_pos h0]) rfl rfl rfl
  have h0 : ¬ x.what = 0 := by simpa using (show (x.what == 0) = false from h)
  refine sem_split (fun h => ?_) (fun h => ?_)
  · have h2 : x.what = 2 := by simpa using (show (x.what == 2) = true from h)
    refine sem_step G [tokAt n 0, .int .i64 x.a] ((Env.ofL ((dlvL G N x.a).cells ++ [.bool (dlvOk N x.a)])).ans (encG (dlvG G n N x.a))) rfl rfl ⟨n, N, x.a, rfl, hN, rfl, rfl, rfl, rfl, rfl⟩ ?_
    exact ret _ _ _ _ _ (by unfold didO; rw [if_neg h0, if_pos h2]) rfl rfl rfl
  have h2 : ¬ x.what = 2 := by simpa using (show (x.what == 2) = false from h)
  refine sem_split (fun h => ?_) (fun h => ?_)
  · have h3 : x.what = 3 := by simpa using (show (x.what == 3) = true from h)
    refine sem_step G [tokAt n 0, .int .i64 x.a] ((Env.ofL ((lookL G N x.a).cells ++ [.bool (lookB N x.a)])).ans (encG (lookG G N x.a))) rfl rfl ⟨n, N, x.a, rfl, hN, rfl, rfl, rfl, rfl, rfl⟩ ?_
    refine sem_step (lookG G N x.a) [tokAt n 0, .int .i64 x.a] ((Env.ofL [.bool (dblOk N x.a)]).ans (encG (dblG (lookG G N x.a) n N x.a))) rfl rfl ⟨n, N, x.a, rfl, (Step.look hN _).is_, rfl, rfl⟩ ?_
    exact ret _ _ _ _ _ (by unfold didO; rw [if_neg h0, if_neg h2, if_pos h3]) rfl rfl rfl
  have h3 : ¬ x.what = 3 := by simpa using (show (x.what == 3) = false from h)
  refine sem_split (fun h => ?_) (fun h => ?_)
  · have h4 : x.what = 4 := by simpa using (show (x.what == 4) = true from h)
    refine sem_step G [tokAt n 0, .int .i64 x.a] ((Env.ofL [.bool (lookB N x.a)]).ans (encG (losG G n N x.a))) rfl rfl ⟨n, N, x.a, rfl, hN, rfl, rfl⟩ ?_
    exact ret _ _ _ _ _ (by unfold didO; rw [if_neg h0, if_neg h2, if_neg h3, if_pos h4]) rfl rfl rfl
  have h4 : ¬ x.what = 4 := by simpa using (show (x.what == 4) = false from h)
  refine sem_split (fun h => ?_) (fun h => ?_)
  · have h5 : x.what = 5 := by simpa using (show (x.what == 5) = true from h)
    refine sem_step G [tokAt n 0, .int .i64 x.a, .int .i64 x.b, .bool true] ((Env.ofL [.bool (wayB N.nodes x.a x.b)]).ans (encG (cutG G N x.a x.b true))) rfl rfl ⟨n, N, x.a, x.b, true, rfl, hN, rfl, rfl⟩ ?_
    exact ret _ _ _ _ _ (by unfold didO; rw [if_neg h0, if_neg h2, if_neg h3, if_neg h4, if_pos h5]) rfl rfl rfl
  have h5 : ¬ x.what = 5 := by simpa using (show (x.what == 5) = false from h)
  refine sem_split (fun h => ?_) (fun h => ?_)
  · have h6 : x.what = 6 := by simpa using (show (x.what == 6) = true from h)
    refine sem_step G [tokAt n 0, .int .i64 x.a, .int .i64 x.b, .bool false] ((Env.ofL [.bool (wayB N.nodes x.a x.b)]).ans (encG (cutG G N x.a x.b false))) rfl rfl ⟨n, N, x.a, x.b, false, rfl, hN, rfl, rfl⟩ ?_
    exact ret _ _ _ _ _ (by unfold didO; rw [if_neg h0, if_neg h2, if_neg h3, if_neg h4, if_neg h5, if_pos h6]) rfl rfl rfl
  have h6 : ¬ x.what = 6 := by simpa using (show (x.what == 6) = false from h)
  exact ret _ _ _ _ _ (by unfold didO; rw [if_neg h0, if_neg h2, if_neg h3, if_neg h4, if_neg h5, if_neg h6]) rfl rfl rfl
end Go.Proofs.Yteklnfajpignoaa
